/- Parts of the proof, put together by a program: MendP RunE LawSham DeskQ DeskI. No condition. -/
import Derived.Test.YtploomncapiloaaGreatDoorSAU
import Derived.Test.YtploomncapiloaaGreatDoorSAY
set_option maxRecDepth 100000
set_option maxHeartbeats 8000000
namespace Go.Proofs.YtploomncapiloaaGreatDoor
open Go.RowKit Croft
def Y5Y (w:World) (e:Ending) (w':World) (X:Int) (B:List Int) (E:Int):Prop:= ∃vb,e= .returned (.tuple #[.int .u64 X,vb,.int .i64 E])/\Q0j w' w.heap.size vb B/\Below w.heap.size w w'
theorem Z1b.three {w w':World} {e:Ending} {E:Int} (h:Z1b w e w' E):Y5Y w e w' 0 [] E:=⟨_,h.1,Q0j.nil _ _,h.2⟩
def Q4H (gs:List Gt) (os:List Int) (n t:Int) (li ld:Nat):Int:=
 if Q3i gs os n t=0 then if li=(Q0E gs).length then if (ld:Int)=Q5n gs os n t then 0 else 1 else 5 else Q3i gs os n t
theorem Y3p (v vi vd:Value) (gs:List Gt) (os ins ds:List Int) (n t:Int) (w:World) (h:Q1m w v gs os) (hi:Q0h w vi ins) (hd:Q0h w vd ds) (h0:Q4H gs os n t ins.length ds.length≠0):
  Calls Tryz.prog 51 #[v,.int .i64 n,.int .i64 t,vi,vd] w fun e w'=>e= .returned (.tuple #[.slice none 0 0,.slice none 0 0,.int .i64 (Q4H gs os n t ins.length ds.length)])/\Below w.heap.size w w':=by
 have KC:=Qh h
 obtain ⟨vg,vo,rfl,hg,ho⟩:=h
 obtain ⟨A1,c1,rfl,hc1',hm1,hl1,hu1,hr1⟩:=hg
 obtain ⟨A2,c2,rfl,hc2',hm2,hl2,hu2,hr2⟩:=ho
 obtain ⟨A3,c3,rfl,hc3',hm3,hl3,hu3,hr3⟩:=hi
 obtain ⟨A4,c4,rfl,hc4',hm4,hl4,hu4,hr4⟩:=hd
 have BB:=Qh ((Below.refl w.heap.size w).alloc (Nat.le_refl _) (.cells #[.slice A1 gs.length c1,.slice A2 os.length c2] 85))
 have BX:=Qh (Box.new w 85 [.slice A1 gs.length c1,.slice A2 os.length c2])
 obtain ⟨R,hR⟩: ∃R,R=Q4H gs os n t ins.length ds.length:=⟨_,rfl⟩
 rw [<-hR] at h0⊢
 suffices hgoal: ∀Post:Ending->World->Prop,(∀w',Below w.heap.size w w'->Post (.returned (.tuple #[.slice none 0 0,.slice none 0 0,.int .i64 R])) w')->Calls Tryz.prog 51 #[.agg #[.slice A1 gs.length c1,.slice A2 os.length c2],.int .i64 n,.int .i64 t,.slice A3 ins.length c3,.slice A4 ds.length c4] w Post from hgoal _ fun w' h=>⟨rfl,h⟩
 intro Post hp
 have HP:=Qh hp
 clear hp hu1 hr1 hm1 hu2 hr2 hm2 hu3 hr3 hm3 hu4 hr4 hm4
 obtain ⟨E,hE⟩: ∃E,E=Q3i gs os n t:=⟨_,rfl⟩
 obtain ⟨K,hK⟩: ∃K,K=Q5n gs os n t:=⟨_,rfl⟩
 have HE:=Qh hE
 have HK:=Qh hK
 by_cases hc:E=0
 ·have hck:Q0U gs os=0:=by
   have:=(Q5o.1 (hE.symm.trans hc)).1
   exact Q0Q.2 this
  have HC:=Qh hck
  have HI:=Qh (show Q5L gs os=Q0E gs from if_pos hck)
  have HR:=Qh (show R=if ins.length=(Q0E gs).length then if (ds.length:Int)=K then 0 else 1 else 5 by rw [hR];unfold Q4H;rw [if_pos (hE.symm.trans hc),<-hK])
  subst hc
  have H0:=Qh h0
  clear hE hK hR h0 hck
  go_enter Tryz.func51,Tryz.ntmps51
  go_wp2_with fail
  refine (Z0J _ gs os n t _ (KC.out.below BB.out)).mono ?_
  rintro e W1 ⟨rfl,hb1⟩
  rw [<-HE.out,<-HK.out]
  have B1:=Qh (Q0b BB.out hb1 BB.out.size)
  have BX1:=Qh (BX.out.below hb1)
  clear hb1
  try dsimp only
  have hc0:=BX1.out.cell (i:=0) rfl
  have hc0b:=BX1.out.cell (i:=1) rfl
  go_wp2_with fail
  refine (Q2Y _ gs os _ (KC.out.below B1.out)).mono ?_
  rintro e W2 ⟨v,rfl,ho1,hb2⟩
  rw [HI.out] at ho1
  rw [HC.out]
  obtain ⟨Aw,cw',hv,_,_⟩:=Q0k ho1.1
  subst hv
  have B2:=Qh (Q0b B1.out hb2 B1.out.size)
  clear hb2 ho1 hc0 hc0b
  try dsimp only
  by_cases h1:ins.length=(Q0E gs).length
  ·have hbi:((ins.length:Int) !=((Q0E gs).length:Int))=false:=by rw [bne_eq_false_iff_eq];omega
   have H1:=Qh h1
   clear h1
   have hne: ¬(ds.length:Int)=K:=fun e=>H0.out (by rw [HR.out,if_pos H1.out,if_pos e])
   have hbd:((ds.length:Int) !=K)=true:=by rw [bne_iff_ne];exact hne
   have HR1:=Qh (show R=1 by rw [HR.out,if_pos H1.out,if_neg hne])
   clear hne
   go_wp2_with fail
   go_ret3
   have hp:=HP.out
   rw [HR1.out] at hp
   exact hp _ B2.out
  ·have hbi:((ins.length:Int) !=((Q0E gs).length:Int))=true:=by rw [bne_iff_ne];omega
   have HR1:=Qh (show R=5 by rw [HR.out,if_neg h1])
   clear h1
   go_wp2_with fail
   go_ret3
   have hp:=HP.out
   rw [HR1.out] at hp
   exact hp _ B2.out
 ·have hb:(E !=0)=true:=by rw [bne_iff_ne];exact hc
  have HR:=Qh (show R=E by rw [hR];unfold Q4H;rw [if_neg (by rw [<-hE];exact hc),hE])
  rw [HR.out] at HP
  clear hE hK hR h0 hc
  go_enter Tryz.func51,Tryz.ntmps51
  go_wp2_with fail
  refine (Z0J _ gs os n t _ (KC.out.below BB.out)).mono ?_
  rintro e W1 ⟨rfl,hb1⟩
  rw [<-HE.out]
  have B1:=Qh (Q0b BB.out hb1 BB.out.size)
  clear hb1
  try dsimp only
  go_wp2_with fail
  go_ret3
  exact HP.out _ B1.out
def Z3c (secret:Int) (ds:List Int) (n:Int) (ok:Bool):List Int:=if ok then Q0g (Q4D n.toNat (Q0f (secret::ds))) else []
def Z1e (ok:Bool):Int:=if ok then 0 else 1
theorem Y0o (secret:Int) (vd:Value) (ds:List Int) (n:Int) (ok:Bool) (hok:ok=true↔Z0D ds n) (w:World) (hs:U64 secret) (h1:Q0h w vd ds):
  Calls Tryz.prog 56 #[.int .u64 secret,vd,.int .i64 n] w fun e w'=>Q1o w e w' (Z3c secret ds n ok) (Z1e ok):=by
 cases ok with
 |false=>exact Z9q secret vd ds n w h1 fun h=>absurd (hok.2 h) (by simp)
 |true=>
  obtain ⟨k1,k2,k3⟩:=hok.1 rfl
  obtain ⟨N,rfl⟩:=Int.eq_ofNat_of_zero_le (show 0<=n by omega)
  exact Q8n secret vd ds N w hs h1 k1 (by omega) (by omega)
theorem Y0p (secret:Int) (vd:Value) (ds:List Int) (n:Int) (ok:Bool) (hok:ok=true↔Z0D ds n) (w:World) (hs:U64 secret) (h1:Q0h w vd ds):
  Calls Tryz.prog 37 #[.int .u64 secret,vd,.int .i64 n] w fun e w'=>Q1o w e w' (Z3c secret ds n ok) (Z1e ok):=by
 cases ok with
 |false=>exact Z9Q secret vd ds n w h1 fun h=>absurd (hok.2 h) (by simp)
 |true=>
  obtain ⟨k1,k2,k3⟩:=hok.1 rfl
  obtain ⟨N,rfl⟩:=Int.eq_ofNat_of_zero_le (show 0<=n by omega)
  exact Y2S secret vd ds N w hs h1 k1 (by omega) (by omega)
structure Q1J where
 n:Nat
 t:Nat
 last:Nat
 sz:Nat
 S:Int->Option (List Int)
structure Q1O where
 tx:List UInt8
 ks:Option Q1J
def Q1J.Ok (m:Nat) (k:Q1J):Prop:=k.t<=4/\k.n<=9/\2 * k.t+1<=k.n/\k.last<=m/\ ∃X,Q2O k.n k.t k.S X
def Q1O.Ok (m:Nat) (b:Q1O):Prop:=b.tx.length<=2048/\ ∀k,b.ks=some k->k.Ok m
def Q1l :Q1O:=⟨[],none⟩
def Q3M :List UInt8:= [99,105,114,99,117,105,116]
def Q9a :List UInt8:= [119,111,114,107]
def Z1P :List UInt8:= [100,101,97,108]
def Z1Q :List UInt8:= [111,112,101,110]
def Q7v :List UInt8:= [99,108,101,97,114]
def Q8v :List UInt8:= [115,104,111,119]
def Z6G :List UInt8:= [114,117,110]
def Z1R :List UInt8:= [107,101,121,115]
def Y0q :List UInt8:= [103,101,110]
def Q3s :List UInt8:= [114,101,102,114,101,115,104]
def Q6E :List UInt8:= [116,119,101,97,107]
def Q3t :List UInt8:= [99,111,109,98,105,110,101]
def Q2z :List UInt8:= [109,117,108,116,105,112,108,121]
def Y0r :List UInt8:= [107,101,121]
def Z1f :List UInt8:= [100,114,111,112]
def Z3w (k:Q1J) (l:List Int):List UInt8×Q1J:=
 if k.sz=8 then (Q2h 2,k) else (Q2G [((k.last+1:Nat):Int)] 0,⟨k.n,k.t,k.last+1,k.sz+1,upd k.S (k.last+1:Nat) (some l)⟩)
def Z5P (ds:List Int) (k:Q1J):List UInt8×Q1J:=if ds.length=k.n * (k.t+1) then Z3w k (Q0g (Q3V k.n (Q9F k.t ds) k.n)) else (Q2h 1,k)
def Q1v (h:Int) (ds:List Int) (k:Q1J):List UInt8×Q1J:=match k.S h with
 |none=>(Q2h 4,k)
 |some l=>if ds.length=k.n * k.t then (okT,⟨k.n,k.t,k.last,k.sz,upd k.S h (some (Q0g (List.zipWith (· + ·) (Q0f l) (Q3V k.n (Q6X k.t ds) k.n))))⟩) else (Q2h 1,k)
def Q3u (h x:Int) (k:Q1J):List UInt8×Q1J:=match k.S h with
 |none=>(Q2h 4,k)
 |some l=>Z3w k (l.map fun y=>ofF (toF y+toF x))
def Q1w (g h x y:Int) (k:Q1J):List UInt8×Q1J:=match k.S g,k.S h with
 |some l,some m=>Z3w k (Q8H (· + ·) (l.map fun z=>ofF (toF z * toF x)) (m.map fun z=>ofF (toF z * toF y)))
 |_,_=>(Q2h 4,k)
def Q0Z (g h:Int) (ds:List Int) (k:Q1J):List UInt8×Q1J:=match k.S g,k.S h with
 |some l,some m=>if ds.length=k.n * k.t then Z3w k (Q0g (Q2d k.n k.t (Q0f l) (Q0f m) (Q0f ds))) else (Q2h 1,k)
 |_,_=>(Q2h 4,k)
open Classical in
noncomputable def Y5g (n t:Nat) (l:List Int):Int:=if h: ∃x,Shared n t (Q0f l) x then ofF (Classical.choose h) else 0
noncomputable def Z4y (h:Int) (k:Q1J):List UInt8×Q1J:=match k.S h with
 |none=>(Q2h 4,k)
 |some l=>(Q2G [Y5g k.n k.t l] 0,k)
def Q5S (h:Int) (k:Q1J):List UInt8×Q1J:=match k.S h with
 |none=>(Q2h 4,k)
 |some _=>(okT,⟨k.n,k.t,k.last,k.sz - 1,upd k.S h none⟩)
def Q6F (b:Q1O) (f:Q1J->List UInt8×Q1J):List UInt8×Q1O:=match b.ks with
 |none=>(Q2h 4,b)
 |some k=>((f k).1,⟨b.tx,some (f k).2⟩)
def Q5s :List Int->List (Int×Int)
 |x::y::l=>(x,y)::Q5s l
 |_=> []
open Classical in
noncomputable def Q7w (t:Int) (l:List (Int×Int)):Int×List Int×Int:=
 if Q0T t l=0 then (if h: ∃p,Fits t.toNat (Q6D t.toNat l.length) l p then (ofF (Q0n (Q0w (Classical.choose h)) 0),srt (Q4i (Q0w (Classical.choose h)) l),0) else (0, [],6)) else (0, [],Q0T t l)
open Classical in
theorem Z6H (t:Int) (l:List (Int×Int)):
  (∀(va:Value) (w:World),Q0V w va l->Calls Tryz.prog 111 #[.int .i64 t,va] w fun e w'=>Y5Y w e w' (Q7w t l).1 (Q7w t l).2.1 (Q7w t l).2.2)/\
  (∀(va:Value) (w:World),Q0V w va l->Calls Tryz.prog 39 #[.int .i64 t,va] w fun e w'=>Y5Y w e w' (Q7w t l).1 (Q7w t l).2.1 (Q7w t l).2.2):=by
 unfold Q7w
 by_cases h:Q0T t l=0
 ·rw [if_pos h]
  obtain ⟨⟨h1,h2⟩,hok,hl⟩:=Q1V.1 h
  obtain ⟨T,rfl⟩:=Int.eq_ofNat_of_zero_le h1
  have hl2:T+1+2 * Q6D T l.length<=l.length:=by unfold Q6D;omega
  rw [Int.toNat_natCast]
  have hr: ∀w e w',Z1c w e w' T (Q6D T l.length) l->Y5Y w e w' (if h: ∃p,Fits T (Q6D T l.length) l p then ((ofF (Q0n (Q0w (Classical.choose h)) 0),srt (Q4i (Q0w (Classical.choose h)) l),0):Int×List Int×Int) else (0, [],6)).1 (if h: ∃p,Fits T (Q6D T l.length) l p then ((ofF (Q0n (Q0w (Classical.choose h)) 0),srt (Q4i (Q0w (Classical.choose h)) l),0):Int×List Int×Int) else (0, [],6)).2.1 (if h: ∃p,Fits T (Q6D T l.length) l p then ((ofF (Q0n (Q0w (Classical.choose h)) 0),srt (Q4i (Q0w (Classical.choose h)) l),0):Int×List Int×Int) else (0, [],6)).2.2:=by
   intro w e w' hh
   by_cases hf: ∃p,Fits T (Q6D T l.length) l p
   ·rw [dif_pos hf]
    rcases hh with ⟨q,hn,hq,vb,e1,e3,e4⟩|⟨hno,_⟩
    ·have e:q=Q0w (Classical.choose hf):=by rw [<-hn];exact hq.one hok.more hl2 (Classical.choose_spec hf)
     subst e
     exact ⟨vb,e1,e3,e4⟩
    ·exact absurd (Classical.choose_spec hf) (hno _)
   ·rw [dif_neg hf]
    rcases hh with ⟨q,hn,hq,_⟩|⟨_,hh⟩
    ·exact absurd ⟨q,hq⟩ hf
    ·exact hh.three
  exact ⟨fun va w h1=>(Y3o T va l w h1 h).mono fun e w' hh=>hr _ _ _ hh,fun va w h1=>(Z7X T va l w h1 h).mono fun e w' hh=>hr _ _ _ hh⟩
 ·rw [if_neg h]
  exact ⟨fun va w h1=>(Y0n t va l w h1 h).mono fun e w' hh=>hh.three,fun va w h1=>(Z5O t va l w h1 h).mono fun e w' hh=>hh.three⟩
noncomputable def Q9H (n:List Int):List UInt8:=Q2G ((Q7w (n.headD 0) (Q5s n.tail)).1::(Q7w (n.headD 0) (Q5s n.tail)).2.1) (Q7w (n.headD 0) (Q5s n.tail)).2.2
def Z1g (ds:List Int) (n:Int):Bool:=decide (ds.length<=4/\(ds.length:Int)+1<=n/\n<=9)
def Y0s (n:List Int):List UInt8:=Q2G (Z3c (n.getD 1 0) (n.drop 2) (n.getD 0 0) (Z1g (n.drop 2) (n.getD 0 0))) (Z1e (Z1g (n.drop 2) (n.getD 0 0)))
def Q5e (tx:List UInt8) (f:List Gt->List Int->List UInt8):List UInt8:=if (Q0s tx).e=0 then f (Q0s tx).gs (Q0s tx).os else Q2h (Q0s tx).e++32::Q3y (Q0s tx).at_
def Q7Q (gs:List Gt) (os:List Int):List UInt8:=Q8O gs os++okT
def Z3x (n:List Int) (gs:List Gt) (os:List Int):List UInt8:=Q2G (Z6v gs os n) (Z3u gs os n)
def Q5t (n ds:List Int) (gs:List Gt) (os:List Int):List UInt8:=
 Q2G (Q0g (Q3P gs os (Q0f (n.drop 2)))) (Q4H gs os (n.getD 0 0) (n.getD 1 0) (n.drop 2).length ds.length)
def Z3d (x:List UInt8):List (List UInt8)->Nat
 | []=>0
 |y::l=>if x=y then 0 else Z3d x l+1
def Q6g (tx:List UInt8) (ws:List (List UInt8)):List UInt8:=
 let i:=Z3d [47] ws
 if i<ws.length then (if Q0X (ws.take i)=true/\Q0X (ws.drop (i+1))=true/\2<=i then Q5e tx (Q5t ((ws.take i).map Q2s) ((ws.drop (i+1)).map Q2s)) else Q2h 3) else Q2h 3
def Y0t (b:Q1O) (n t:Int):List UInt8×Q1O:=if 0<=t/\t<=4/\1<=n/\n<=9/\2 * t+1<=n then (okT,⟨b.tx,some ⟨n.toNat,t.toNat,0,0,fun _=>none⟩⟩) else (Q2h 1,b)
noncomputable def Q1B (v:List UInt8) (n:List Int):Option (Q1J->List UInt8×Q1J):=
 if v=Y0q then some (Z5P n)
 else if v=Q3s then (if 1<=n.length then some (Q1v (n.getD 0 0) (n.drop 1)) else none)
 else if v=Q6E then (if n.length=2 then some (Q3u (n.getD 0 0) (n.getD 1 0)) else none)
 else if v=Q3t then (if n.length=4 then some (Q1w (n.getD 0 0) (n.getD 1 0) (n.getD 2 0) (n.getD 3 0)) else none)
 else if v=Q2z then (if 2<=n.length then some (Q0Z (n.getD 0 0) (n.getD 1 0) (n.drop 2)) else none)
 else if v=Y0r then (if n.length=1 then some (Z4y (n.getD 0 0)) else none)
 else if v=Z1f then (if n.length=1 then some (Q5S (n.getD 0 0)) else none)
 else none
noncomputable def Q2P (b:Q1O) (v:List UInt8) (n:List Int):List UInt8×Q1O:=match Q1B v n with
 |none=>(Q2h 3,b)
 |some f=>Q6F b f
noncomputable def Q0P (b:Q1O) (v:List UInt8) (n:List Int):Option (List UInt8×Q1O):=
 if v=Z1P then (if 2<=n.length then some (Y0s n,b) else none)
 else if v=Z1Q then (if 1<=n.length then some (if n.length % 2=0 then Q2h 3 else Q9H n,b) else none)
 else if v=Q7v then (if n.length=0 then some (okT,⟨[],b.ks⟩) else none)
 else if v=Q8v then (if n.length=0 then some (Q5e b.tx Q7Q,b) else none)
 else if v=Z6G then some (Q5e b.tx (Z3x n),b)
 else if v=Z1R then (if n.length=2 then some (Y0t b (n.getD 0 0) (n.getD 1 0)) else none)
 else none
noncomputable def Q0C (b:Q1O) (v:List UInt8) (ws:List (List UInt8)):List UInt8×Q1O:=
 if v=Q3M then ((Q3g b.tx ws).1,⟨(Q3g b.tx ws).2,b.ks⟩)
 else if v=Q9a then (Q6g b.tx ws,b)
 else if Q0X ws=true then (Q0P b v (ws.map Q2s)).getD (Q2P b v (ws.map Q2s))
 else (Q2h 3,b)
theorem Q1J.Ok.more {m:Nat} {k:Q1J} (h:k.Ok m):k.Ok (m+1):=⟨h.1,h.2.1,h.2.2.1,by have:=h.2.2.2.1;omega,h.2.2.2.2⟩
theorem Q1O.Ok.more {m:Nat} {b:Q1O} (h:b.Ok m):b.Ok (m+1):=⟨h.1,fun k hk=>(h.2 k hk).more⟩
theorem Z3e {m:Nat} {k:Q1J} (h:k.Ok m) {l:List Int} {x:F} (hl:Shared k.n k.t (Q0f l) x):(Z3w k l).2.Ok (m+1):=by
 unfold Z3w
 split
 ·exact h.more
 ·obtain ⟨h1,h2,h3,h4,X,h5⟩:=h
  exact ⟨h1,h2,h3,by dsimp only;omega,_,h5.put hl⟩
theorem Y5h {m:Nat} {k:Q1J} (h:k.Ok m) (ds:List Int):(Z5P ds k).2.Ok (m+1):=by
 unfold Z5P
 split
 ·exact Z3e h (Z5w ds)
 ·exact h.more
theorem Z5Q {m:Nat} {k:Q1J} (h:k.Ok m) (z:Int) (ds:List Int):(Q1v z ds k).2.Ok (m+1):=by
 unfold Q1v
 split
 ·exact h.more
 ·next l hl=>
  split
  ·obtain ⟨h1,h2,h3,h4,X,h5⟩:=h
   exact ⟨h1,h2,h3,by dsimp only;omega,X,h5.turn (Z5x ds l (h5 _ _ hl))⟩
  ·exact h.more
theorem Y0u {m:Nat} {k:Q1J} (h:k.Ok m) (z x:Int):(Q3u z x k).2.Ok (m+1):=by
 unfold Q3u
 split
 ·exact h.more
 ·next l hl=>
  obtain ⟨X,h5⟩:=h.2.2.2.2
  exact Z3e h (Z4j l (toF x) (h5 _ _ hl))
theorem Z5R {m:Nat} {k:Q1J} (h:k.Ok m) (g z x y:Int):(Q1w g z x y k).2.Ok (m+1):=by
 unfold Q1w
 split
 ·next l q hl hq=>
  obtain ⟨X,h5⟩:=h.2.2.2.2
  exact Z3e h (Z1K l q x y (h5 _ _ hl) (h5 _ _ hq))
 ·exact h.more
theorem Z4z {m:Nat} {k:Q1J} (h:k.Ok m) (g z:Int) (ds:List Int):(Q0Z g z ds k).2.Ok (m+1):=by
 unfold Q0Z
 split
 ·next l q hl hq=>
  split
  ·obtain ⟨X,h5⟩:=h.2.2.2.2
   exact Z3e h (Z0Q l q ds (h5 _ _ hl) (h5 _ _ hq) h.2.2.1 h.2.1)
  ·exact h.more
 ·exact h.more
theorem Y5i {m:Nat} {k:Q1J} (h:k.Ok m) (z:Int):(Z4y z k).2.Ok (m+1):=by
 unfold Z4y
 split<;>exact h.more
theorem Y3q {m:Nat} {k:Q1J} (h:k.Ok m) (z:Int):(Q5S z k).2.Ok (m+1):=by
 unfold Q5S
 split
 ·exact h.more
 ·obtain ⟨h1,h2,h3,h4,X,h5⟩:=h
  exact ⟨h1,h2,h3,by dsimp only;omega,X,h5.drop⟩
theorem Y0v {m:Nat} {b:Q1O} (h:b.Ok m) {f:Q1J->List UInt8×Q1J} (hf: ∀k,k.Ok m->(f k).2.Ok (m+1)):(Q6F b f).2.Ok (m+1):=by
 unfold Q6F
 split
 ·exact h.more
 ·next k hk=>
  refine ⟨h.1,fun q hq=> ?_⟩
  cases hq
  exact hf k (h.2 k hk)
theorem Y0w {m:Nat} (v:List UInt8) (n:List Int) {f:Q1J->List UInt8×Q1J} (hf:Q1B v n=some f) {k:Q1J} (hk:k.Ok m):(f k).2.Ok (m+1):=by
 unfold Q1B at hf
 split at hf
 ·cases hf;exact Y5h hk _
 split at hf
 ·split at hf<;>cases hf;exact Z5Q hk _ _
 split at hf
 ·split at hf<;>cases hf;exact Y0u hk _ _
 split at hf
 ·split at hf<;>cases hf;exact Z5R hk _ _ _ _
 split at hf
 ·split at hf<;>cases hf;exact Z4z hk _ _ _
 split at hf
 ·split at hf<;>cases hf;exact Y5i hk _
 split at hf
 ·split at hf<;>cases hf;exact Y3q hk _
 cases hf
theorem Y0x {m:Nat} {b:Q1O} (h:b.Ok m) (v:List UInt8) (n:List Int):(Q2P b v n).2.Ok (m+1):=by
 unfold Q2P
 split
 ·exact h.more
 ·next f hf=>exact Y0v h fun k hk=>Y0w v n hf hk
theorem Y3r {m:Nat} {b:Q1O} (h:b.Ok m) (n t:Int):(Y0t b n t).2.Ok (m+1):=by
 unfold Y0t
 split
 ·next hc=>
  refine ⟨h.1,fun k hk=> ?_⟩
  cases hk
  exact ⟨by dsimp only;omega,by dsimp only;omega,by dsimp only;omega,by dsimp only;omega,fun _=>0,fun z zs hz=>by cases hz⟩
 ·exact h.more
theorem Y0y {m:Nat} {b:Q1O} (h:b.Ok m) (v:List UInt8) (n:List Int) {r:List UInt8×Q1O} (hr:Q0P b v n=some r):r.2.Ok (m+1):=by
 unfold Q0P at hr
 split at hr
 ·split at hr
  ·cases hr;exact h.more
  ·cases hr
 split at hr
 ·split at hr
  ·cases hr;exact h.more
  ·cases hr
 split at hr
 ·split at hr
  ·cases hr;exact ⟨by simp,h.more.2⟩
  ·cases hr
 split at hr
 ·split at hr
  ·cases hr;exact h.more
  ·cases hr
 split at hr
 ·cases hr;exact h.more
 split at hr
 ·split at hr
  ·cases hr;exact Y3r h _ _
  ·cases hr
 cases hr
theorem Y0z {tx:List UInt8} (h:tx.length<=2048) (ws:List (List UInt8)):(Q3g tx ws).2.length<=2048:=by
 unfold Q3g
 split
 ·exact h
 ·split
  ·exact h
  ·simp only [List.length_append,List.length_singleton];omega
theorem Y3s {m:Nat} {b:Q1O} (h:b.Ok m) (v:List UInt8) (ws:List (List UInt8)):(Q0C b v ws).2.Ok (m+1):=by
 unfold Q0C
 split
 ·exact ⟨Y0z h.1 ws,h.more.2⟩
 split
 ·exact h.more
 split
 ·cases hp:Q0P b v (ws.map Q2s) with
  |none=>exact Y0x h _ _
  |some r=>exact Y0y h _ _ hp
 ·exact h.more
theorem Q3v {ws:List (List UInt8)} (h:Q0X ws=true): ∀z∈ws.map Q2s,0<=z:=fun z hz=>by
 obtain ⟨x,hx,rfl⟩:=List.mem_map.1 hz
 unfold Q0X at h
 rw [List.all_eq_true] at h
 exact of_decide_eq_true (h x hx)
theorem Q7R {ws:List (List UInt8)} (h:Q0X ws=true):Q0x ws=ws.map Q2s:=if_pos h
end Go.Proofs.YtploomncapiloaaGreatDoor
namespace Go.Proofs.YtploomncapiloaaGreatDoor
open Go.RowKit Go.Sort Croft
structure Left (base db:Nat) (w w':World):Prop where
 os:w'.os=w.os
 tape:w'.tape=w.tape
 output:w'.output=w.output
 size:w.heap.size<=w'.heap.size
 block: ∀k,k<w.heap.size->k≠db->(k<base∨ ∃cs fr,w.heap[k]? =some (.cells cs 5 fr))->w'.heap[k]? =w.heap[k]?
section
variable {base db:Nat} {w w1 w':World}
theorem Left.trans (h:Left base db w w1) (k:Left base db w1 w'):Left base db w w':=
 ⟨k.os.trans h.os,k.tape.trans h.tape,k.output.trans h.output,Nat.le_trans h.size k.size,fun i hi hd hc=>by
  have e:=h.block i hi hd hc
  refine (k.block i (Nat.lt_of_lt_of_le hi h.size) hd ?_).trans e
  rcases hc with hc|⟨cs,fr,hc⟩
  ·exact .inl hc
  ·exact .inr ⟨cs,fr,e.trans hc⟩⟩
theorem Left.of_below (h:Below w.heap.size w w'):Left base db w w':=⟨h.os,h.tape,h.output,h.size,fun k hk _ _=>h.block k hk⟩
theorem Left.below (h:Left base db w w1) (k:Below w1.heap.size w1 w'):Left base db w w':=h.trans (.of_below k)
theorem Left.of_grown (h:w.grownBy w' (some db)):Left base db w w':=⟨h.os,h.tape,h.output,h.size,fun k hk hd _=>h.block k hk (fun e=>hd (by injection e))⟩
theorem Left.low (h:Left base db w w') {B:Nat} (h1:B<=base) (h2:B<=db) (h3:B<=w.heap.size):Below B w w':=⟨h.os,h.tape,h.output,h.size,fun k hk=>h.block k (by omega) (by omega) (.inl (by omega))⟩
theorem Z3f {a b:Option Obj} {cs cs':Array Value} {T e:TypeId} {fr fr':Nat×Nat} (h1:a=some (.cells cs T fr)) (h2:b=some (.cells cs' e fr')) (hne:T≠e):a≠b:=fun he=>by
 rw [h1,h2] at he
 injection he with he
 injection he with _ he _
 exact hne he
theorem Left.of_keys {kb mb n t last sz:Nat} {S:Int->Option (List Int)} {V:Int->Value} (hk:Q0G w base kb mb n t last sz S V) (h:Q1F kb mb w w'):Left base db w w':=
 ⟨h.os,h.tape,h.output,h.size,fun k hlt _ hc=>h.block k hlt (fun e=>by
  subst e
  rcases hc with hc|⟨cs,fr,hc⟩
  ·have:=hk.le;omega
  ·exact Z3f hk.cell hc (by decide) rfl) (fun e=>by
  subst e
  rcases hc with hc|⟨cs,fr,hc⟩
  ·have:=hk.store.le;omega
  ·exact hk.mb_type _ _ _ hc)⟩
theorem Left.of_ref {kb mb n t last sz:Nat} {S:Int->Option (List Int)} {V:Int->Value} (hk:Q1k w base kb mb n t last sz S V) (h:Q1F kb mb w w'):Left base db w w':=
 ⟨h.os,h.tape,h.output,h.size,fun k hlt _ hc=>h.block k hlt (fun e=>by
  subst e
  rcases hc with hc|⟨cs,fr,hc⟩
  ·have:=hk.le;omega
  ·exact Z3f hk.cell hc (by decide) rfl) (fun e=>by
  subst e
  rcases hc with hc|⟨cs,fr,hc⟩
  ·have:=hk.store.le;omega
  ·exact hk.mb_type _ _ _ hc)⟩
theorem Q0S.less {base' mb sz:Nat} {S:Int->Option (List Int)} {V:Int->Value} (h:Q0S w base mb sz S V) (hb:base'<=base):Q0S w base' mb sz S V:=
 ⟨h.map,fun z zs hz=>(h.rows z zs hz).less hb,Nat.le_trans hb h.le⟩
theorem Q0G.less {base' kb mb n t last sz:Nat} {S:Int->Option (List Int)} {V:Int->Value} (h:Q0G w base kb mb n t last sz S V) (hb:base'<=base):Q0G w base' kb mb n t last sz S V:=
 ⟨h.cell,h.store.less hb,Nat.le_trans hb h.le,h.len,h.sz8⟩
theorem Q1k.less {base' kb mb n t last sz:Nat} {S:Int->Option (List Int)} {V:Int->Value} (h:Q1k w base kb mb n t last sz S V) (hb:base'<=base):Q1k w base' kb mb n t last sz S V:=
 ⟨h.cell,h.store.less hb,Nat.le_trans hb h.le,h.len,h.sz8⟩
theorem Q0S.others {bb mb sz:Nat} {S:Int->Option (List Int)} {V:Int->Value} (h:Q0S w base mb sz S V) (ho:Lib.OthersKept 5 (some bb) w w') (hbb:bb<base):Q0S w' base mb sz S V:=by
 obtain ⟨D,⟨es,clock,hblk,F⟩,h3⟩:=h.map
 have hle:=h.le
 refine ⟨⟨D,⟨es,clock,ho mb _ hblk (by simp;omega) (fun _ _ e=>by cases e),F⟩,h3⟩,fun z zs hz=> ?_,hle⟩
 have hr:=h.rows z zs hz
 refine ⟨⟨hr.1.1, ?_⟩,hr.2⟩
 rcases hr.1.2 with h1|⟨g,cap,cur,hv,hg,hc,r⟩
 ·exact .inl h1
 ·exact .inr ⟨g,cap,cur,hv,hg,ho g _ hc (by simp;omega) (fun _ _ e=>by injection e with _ e;exact absurd e (by decide)),r⟩
theorem Q0G.others {bb kb mb n t last sz:Nat} {S:Int->Option (List Int)} {V:Int->Value} (h:Q0G w base kb mb n t last sz S V) (ho:Lib.OthersKept 5 (some bb) w w') (hbb:bb<base):Q0G w' base kb mb n t last sz S V:=by
 have hle:=h.le
 exact ⟨ho kb _ h.cell (by simp;omega) (fun _ _ e=>by injection e with _ e;exact absurd e (by decide)),h.store.others ho hbb,hle,h.len,h.sz8⟩
def Q6a (w:World) (base:Nat) (kp:Value):Option Q1J->Prop
 |none=>kp= .pointer none
 |some k=> ∃kb mb V,kp= .pointer (some ⟨kb,0,none⟩)/\Q0G w base kb mb k.n k.t k.last k.sz k.S V
def Q8w (w:World) (base:Nat) (kp:Value):Option Q1J->Prop
 |none=>kp= .pointer none
 |some k=> ∃kb mb V,kp= .pointer (some ⟨kb,0,none⟩)/\Q1k w base kb mb k.n k.t k.last k.sz k.S V
theorem Q6a.below {kp:Value} {o:Option Q1J} (h:Q6a w base kp o) (hb:Below w.heap.size w w'):Q6a w' base kp o:=by
 cases o with
 |none=>exact h
 |some k=>obtain ⟨kb,mb,V,h1,h2⟩:=h;exact ⟨kb,mb,V,h1,h2.below hb⟩
theorem Q8w.below {kp:Value} {o:Option Q1J} (h:Q8w w base kp o) (hb:Below w.heap.size w w'):Q8w w' base kp o:=by
 cases o with
 |none=>exact h
 |some k=>obtain ⟨kb,mb,V,h1,h2⟩:=h;exact ⟨kb,mb,V,h1,h2.below hb⟩
def Q2Q (w:World) (base db:Nat) (b:Q1O):Prop:= ∃kp,Box w db 32 [.string (bs b.tx),kp]/\Q6a w base kp b.ks
def Q2Z (w:World) (base db:Nat) (b:Q1O):Prop:= ∃kp,Box w db 47 [.string (bs b.tx),kp]/\Q8w w base kp b.ks
theorem Q2Q.below {b:Q1O} (h:Q2Q w base db b) (hb:Below w.heap.size w w'):Q2Q w' base db b:=by
 obtain ⟨kp,h1,h2⟩:=h
 exact ⟨kp,h1.below hb,h2.below hb⟩
theorem Q2Z.below {b:Q1O} (h:Q2Z w base db b) (hb:Below w.heap.size w w'):Q2Z w' base db b:=by
 obtain ⟨kp,h1,h2⟩:=h
 exact ⟨kp,h1.below hb,h2.below hb⟩
theorem Q2Q.lt {b:Q1O} (h:Q2Q w base db b):db<w.heap.size:=by
 obtain ⟨kp,h1,_⟩:=h
 exact h1.lt
theorem Q2Q.others {bb:Nat} {b:Q1O} (h:Q2Q w base db b) (ho:Lib.OthersKept 5 (some bb) w w') (hbb:bb<base) (hne:db≠bb):Q2Q w' base db b:=by
 obtain ⟨kp,h1,h2⟩:=h
 refine ⟨kp,ho db _ h1 (by simp;omega) (fun _ _ e=>by injection e with _ e;exact absurd e (by decide)), ?_⟩
 cases hk:b.ks with
 |none=>rw [hk] at h2;exact h2
 |some k=>
  rw [hk] at h2
  obtain ⟨kb,mb,V,h3,h4⟩:=h2
  exact ⟨kb,mb,V,h3,h4.others ho hbb⟩
theorem Q6a.grown {kp:Value} {o:Option Q1J} (h:Q6a w base kp o) (hg:w.grownBy w' (some db)) (hd:db<base):Q6a w' base kp o:=by
 cases o with
 |none=>exact h
 |some k=>
  obtain ⟨kb,mb,V,h1,h2⟩:=h
  have hle:=h2.le
  have hle2:=h2.store.le
  refine ⟨kb,mb,V,h1,(hg.block kb h2.lt (by simp;omega)).trans h2.cell,⟨?_,fun z zs hz=> ?_,hle2⟩,hle,h2.len,h2.sz8⟩
  ·obtain ⟨D,⟨es,clock,hblk,F⟩,h3⟩:=h2.store.map
   exact ⟨D,⟨es,clock,(hg.block mb h2.store.lt (by simp;omega)).trans hblk,F⟩,h3⟩
  ·have hr:=h2.store.rows z zs hz
   refine ⟨⟨hr.1.1, ?_⟩,hr.2⟩
   rcases hr.1.2 with h1|⟨g,cap,cur,hv,hgb,hc,r⟩
   ·exact .inl h1
   ·exact .inr ⟨g,cap,cur,hv,hgb,(hg.block g (Array.getElem?_eq_some_iff.1 hc).1 (by simp;omega)).trans hc,r⟩
theorem Q8w.grown {kp:Value} {o:Option Q1J} (h:Q8w w base kp o) (hg:w.grownBy w' (some db)) (hd:db<base):Q8w w' base kp o:=by
 cases o with
 |none=>exact h
 |some k=>
  obtain ⟨kb,mb,V,h1,h2⟩:=h
  have hle:=h2.le
  have hle2:=h2.store.le
  refine ⟨kb,mb,V,h1,(hg.block kb h2.lt (by simp;omega)).trans h2.cell,⟨?_,fun z zs hz=> ?_,hle2⟩,hle,h2.len,h2.sz8⟩
  ·obtain ⟨D,⟨es,clock,hblk,F⟩,h3⟩:=h2.store.map
   exact ⟨D,⟨es,clock,(hg.block mb h2.store.lt (by simp;omega)).trans hblk,F⟩,h3⟩
  ·have hr:=h2.store.rows z zs hz
   refine ⟨⟨hr.1.1, ?_⟩,hr.2⟩
   rcases hr.1.2 with h1|⟨g,cap,cur,hv,hgb,hc,r⟩
   ·exact .inl h1
   ·exact .inr ⟨g,cap,cur,hv,hgb,(hg.block g (Array.getElem?_eq_some_iff.1 hc).1 (by simp;omega)).trans hc,r⟩
def Z8E (w:World) (b:Nat) (l:List UInt8):Prop:=Lib.IsBuilderF 36 5 b b (Lib.byteCells l) w
theorem Z8E.left {b:Nat} {l:List UInt8} (h:Z8E w b l) (hl:Left base db w w') (hb:b<base) (hne:b≠db) (hd: ∀cs fr,w.heap[db]? ≠some (.cells cs 5 fr)):Z8E w' b l:=by
 have key: ∀p,Lib.BuilderAtF 36 5 b b p (Lib.byteCells l) w->Lib.BuilderAtF 36 5 b b p (Lib.byteCells l) w':=fun p hp=>by
  obtain ⟨h1,v,h2,h3,h4⟩:=hp
  refine ⟨h1,v,(hl.block b (Array.getElem?_eq_some_iff.1 h2).1 hne (.inl hb)).trans h2,⟨h3.1, ?_⟩,h4⟩
  rcases h3.2 with h5|⟨g,cap,cur,fz,hv,hgb,hc,r⟩
  ·exact .inl h5
  ·exact .inr ⟨g,cap,cur,fz,hv,hgb,(hl.block g (Array.getElem?_eq_some_iff.1 hc).1 (fun e=>by subst e;exact hd _ _ hc) (.inr ⟨_,_,hc⟩)).trans hc,r⟩
 rcases h with h|h
 ·exact .inl (key _ h)
 ·exact .inr (key _ h)
theorem Q2Q.type {b:Q1O} (h:Q2Q w base db b) (cs:Array Value) (fr:Nat×Nat):w.heap[db]? ≠some (.cells cs 5 fr):=fun e=>by
 obtain ⟨kp,h1,_⟩:=h
 exact Z3f h1 e (by decide) rfl
end
end Go.Proofs.YtploomncapiloaaGreatDoor
