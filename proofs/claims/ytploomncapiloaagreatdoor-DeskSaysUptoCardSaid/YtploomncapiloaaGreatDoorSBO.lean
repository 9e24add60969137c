/- Parts of the proof, put together by a program: DeskA DeskB BenL BenW. No condition. -/
import Derived.Test.YtploomncapiloaaGreatDoorSBL
import Derived.Test.YtploomncapiloaaGreatDoorSBN
set_option maxRecDepth 100000
set_option maxHeartbeats 8000000
namespace Go.Proofs.YtploomncapiloaaGreatDoor
open Go.RowKit Go.Sort Go.PlainAid Croft
def Q4C (c:UInt8):List (List UInt8)->List (List UInt8)
 | []=> []
 | [x]=> [x]
 |x::y::l=>(x++ [c])::Q4C c (y::l)
theorem Q2J (c:UInt8): ∀l,(Q4C c l).length=l.length
 | []=>rfl
 | [_]=>rfl
 |x::y::l=>by rw [Q4C,List.length_cons,Q2J c (y::l)];rfl
theorem Z6c (c:UInt8) (x:List UInt8) {l:List (List UInt8)} (h:l≠ []):Q4C c (x::l)=(x++ [c])::Q4C c l:=by
 cases l with
 |nil=>exact absurd rfl h
 |cons y l=>rfl
theorem Q9u (c:UInt8): ∀(k:Nat) (l:List UInt8),l.count c=k->Go.Lib.splitK [c] 1 k l=Q4C c (pieces c l)
 |0,l,h=>by
  rw [Go.Lib.splitK,Q5G (List.count_eq_zero.1 h)];rfl
 |k+1,l,h=>by
  rcases Z6n c l with hm|⟨x,y,rfl,hx⟩
  ·rw [List.count_eq_zero.2 hm] at h;omega
  ·rw [Go.Lib.splitK,index_hit y hx,if_neg (by rw [beq_iff_eq];omega),Q6P y hx]
   have hc:y.count c=k:=by
    rw [List.count_append,List.count_eq_zero.2 hx,List.count_cons_self] at h;omega
   rw [Z6c c x (Q0I c y),<-Q9u c k y hc]
   have e:(x++c::y).take ((x.length:Int).toNat+1)=x++ [c]:=by
    rw [Int.toNat_natCast,show x++c::y=(x++ [c])++y by simp]
    rw [List.take_left' (by simp)]
   rw [e]
   simp
theorem Z4I (c:UInt8) (s:ByteArray):(Go.Lib.splitB ⟨#[c]⟩ 1 (Go.Lib.countB s ⟨#[c]⟩) s).map (·.data.toList)=Q4C c (pieces c s.data.toList):=by
 rw [Go.Lib.splitB_data]
 exact Q9u c _ _ (Go.Lib.count_one c _).symm
theorem Z3n (c:UInt8) (l:List UInt8) (w:World) (hl:l.length<4294967281) (hm:Q9b w):
  Calls Tryz.prog 12 #[.string (bs l),.string ⟨#[c]⟩] w fun e w'=> ∃v,e= .returned v/\Q0J w' w.heap.size v (Q4C c (pieces c l))/\Below w.heap.size w w':=by
 obtain ⟨m,hm⟩:=hm
 have hp:=Z4I c (bs l)
 rw [Z5V] at hp
 have hs:(Lib.splitB ⟨#[c]⟩ 1 (Lib.countB (bs l) ⟨#[c]⟩) (bs l)).map Value.string=sts (Q4C c (pieces c l)):=by
  rw [<-hp,sts,List.map_map]
  apply List.map_congr_left
  intro s _
  simp [Z5U]
 have hlen:(pieces c l).length=Lib.countB (bs l) ⟨#[c]⟩+1:=by
  rw [<-Q2J c,<-hp,List.length_map,Lib.splitB_all ⟨#[c]⟩ (Nat.le_refl 1) _ _ _ rfl]
 have hle:Lib.countB (bs l) ⟨#[c]⟩<=(bs l).size:=Lib.countB_le ⟨#[c]⟩ (Nat.le_refl 1) _ _ (Nat.le_refl _)
 have CG:=Qh (Q7E (bs l) ⟨#[c]⟩ 1 (-1) (Lib.countB (bs l) ⟨#[c]⟩+1) m w (by rw [Q0q];exact hl) hm (Nat.le_refl 1) (Nat.le_refl 1) (by decide) (by decide) (by rw [if_pos (by decide)];omega))
 suffices hgoal: ∀Post:Ending->World->Prop,(∀v w',Q0J w' w.heap.size v (Q4C c (pieces c l))->Below w.heap.size w w'->Post (.returned v) w')->Calls Tryz.prog 12 #[.string (bs l),.string ⟨#[c]⟩] w Post from hgoal _ fun v w' h1 h2=>⟨v,rfl,h1,h2⟩
 intro Post hpo
 have HP:=Qh hpo
 have HS:=Qh hs
 have HLEN:=Qh hlen
 have HPL:=Qh (Q3m c l)
 obtain ⟨s,hs'⟩: ∃s,s=bs l:=⟨_,rfl⟩
 rw [<-hs'] at CG HS HLEN⊢
 clear hpo hs hlen hp hle hs' hm
 go_enter Tryz.func12,Tryz.ntmps12
 go_wp2_with fail
 refine CG.out.mono ?_
 rintro e w' ⟨rfl,rfl⟩
 try dsimp only
 go_wp2_with fail
 have hlen2:(Lib.splitB ⟨#[c]⟩ 1 (Lib.countB s ⟨#[c]⟩) s).length=Lib.countB s ⟨#[c]⟩+1:=Lib.splitB_all ⟨#[c]⟩ (Nat.le_refl 1) _ _ _ rfl
 have hN:Lib.countB s ⟨#[c]⟩+1 - 1=Lib.countB s ⟨#[c]⟩:=by omega
 have ho:=Z2F w w.heap.size (Q4C c (pieces c l)) (by rw [Q2J];have:=HPL.out;omega) (Nat.le_refl _)
 have hb:=(Below.refl w.heap.size w).alloc (Nat.le_refl _) (.cells (sts (Q4C c (pieces c l))).toArray 9)
 have hc:Lib.cellsOf (Lib.splitB ⟨#[c]⟩ 1 (Lib.countB s ⟨#[c]⟩) s) (Lib.countB s ⟨#[c]⟩+1)=(sts (Q4C c (pieces c l))).toArray:=by
  rw [<-HS.out,Lib.cellsOf,hlen2];simp
 have hp:=HP.out _ _ ho hb
 rw [Q2J,HLEN.out] at hp
 rw [hN,hc,hlen2]
 exact hp
end Go.Proofs.YtploomncapiloaaGreatDoor
namespace Croft
theorem Q5W (c:UInt8): ∀(l x:List UInt8),x∈pieces c l->c∉x
 | [],x,h=>by simp [pieces] at h;subst h;simp
 |b::l,x,h=>by
  rw [pieces] at h
  split at h
  ·rcases List.mem_cons.1 h with h|h
   ·subst h;simp
   ·exact Q5W c l x h
  ·next hb=>
   cases hp:pieces c l with
   |nil=>exact absurd hp (Q0I c l)
   |cons p ps=>
    rw [hp] at h
    simp only at h
    rcases List.mem_cons.1 h with h|h
    ·subst h
     have:=Q5W c l p (by rw [hp];simp)
     simp only [List.mem_cons,not_or]
     exact ⟨fun e=>hb (by first|exact e.symm|simp [e]|exact e),this⟩
    ·exact Q5W c l x (by rw [hp];simp [h])
def Q9I (x:List UInt8):List UInt8:=Go.Lib.trimSuffix x [10]
theorem Y1a (x:List UInt8):Q9I (x++ [10])=x:=by
 unfold Q9I Go.Lib.trimSuffix Go.Lib.hasSuffix
 simp
theorem Z8p {x:List UInt8} (h:(10:UInt8)∉x):Q9I x=x:=by
 unfold Q9I Go.Lib.trimSuffix Go.Lib.hasSuffix
 rw [if_neg]
 intro hs
 rw [List.isSuffixOf_iff_suffix] at hs
 obtain ⟨t,ht⟩:=hs
 exact h (by rw [<-ht];simp)
def Q8F (P:List (List UInt8)) (hne:P≠ []):List (List UInt8):=if P.getLast hne= [] then (Go.Proofs.YtploomncapiloaaGreatDoor.Q4C 10 P).dropLast else Go.Proofs.YtploomncapiloaaGreatDoor.Q4C 10 P
theorem Z1o : ∀(P:List (List UInt8)),(∀x∈P,(10:UInt8)∉x)->(Go.Proofs.YtploomncapiloaaGreatDoor.Q4C 10 P).map Q9I=P
 | [],_=>rfl
 | [x],h=>by rw [Go.Proofs.YtploomncapiloaaGreatDoor.Q4C,List.map_cons,Z8p (h x (by simp))];rfl
 |x::y::l,h=>by
  rw [Go.Proofs.YtploomncapiloaaGreatDoor.Q4C,List.map_cons,Y1a,Z1o (y::l) (fun z hz=>h z (by simp [hz]))]
theorem Z1p : ∀(P:List (List UInt8)) (hne:P≠ []) (h2:Go.Proofs.YtploomncapiloaaGreatDoor.Q4C 10 P≠ []),(Go.Proofs.YtploomncapiloaaGreatDoor.Q4C 10 P).getLast h2=P.getLast hne
 | [],h,_=>absurd rfl h
 | [x],_,_=>rfl
 |x::y::l,hne,h2=>by
  simp only [Go.Proofs.YtploomncapiloaaGreatDoor.Q4C]
  have h3:Go.Proofs.YtploomncapiloaaGreatDoor.Q4C 10 (y::l)≠ []:=fun e=>by
   have:=congrArg List.length e
   rw [Go.Proofs.YtploomncapiloaaGreatDoor.Q2J] at this
   simp at this
  rw [List.getLast_cons h3,List.getLast_cons (List.cons_ne_nil y l)]
  exact Z1p (y::l) _ h3
theorem Z6d (s:List UInt8):(Q8F (pieces 10 s) (Q0I 10 s)).map Q9I=Q9w s:=by
 unfold Q8F Q9w
 have h:=Z1o (pieces 10 s) (fun x hx=>Q5W 10 s x hx)
 split
 ·rw [List.map_dropLast,h]
 ·exact h
def tot (l:List (List UInt8)):Nat:=(l.map fun x=>x.length+1).sum
theorem Q2u (x:List UInt8) (l:List (List UInt8)):tot (x::l)=x.length+1+tot l:=by simp [tot]
theorem Q9f (c:UInt8): ∀l,tot (pieces c l)=l.length+1
 | []=>by simp [pieces,tot]
 |b::l=>by
  have ih:=Q9f c l
  rw [pieces]
  split
  ·rw [Q2u,ih];simp;omega
  ·cases hp:pieces c l with
   |nil=>exact absurd hp (Q0I c l)
   |cons p ps=>
    rw [hp,Q2u] at ih
    simp only
    rw [Q2u]
    simp only [List.length_cons] at ih⊢
    omega
theorem Z2r (f:List UInt8->Bool): ∀l,tot (l.filter f)<=tot l
 | []=>Nat.le_refl _
 |x::l=>by
  have:=Z2r f l
  rw [List.filter_cons]
  split
  ·rw [Q2u,Q2u];omega
  ·rw [Q2u];omega
theorem Q4q : ∀l,l.length<=tot l
 | []=>Nat.zero_le _
 |x::l=>by have:=Q4q l;rw [Q2u,List.length_cons];omega
theorem Z1q : ∀(l:List (List UInt8)) (x:List UInt8),x∈l->x.length<=tot l
 | [],x,h=>by cases h
 |y::l,x,h=>by
  rw [Q2u]
  rcases List.mem_cons.1 h with h|h
  ·subst h;omega
  ·have:=Z1q l x h;omega
theorem Z3o : ∀l,(Q1A l).length<=tot l
 | []=>Nat.zero_le _
 | [x]=>by rw [Q2u];simp [Q1A];omega
 |x::y::l=>by
  have:=Z3o (y::l)
  rw [Q2u,Q1A,List.length_append,List.length_cons]
  omega
theorem Z4J (l:List UInt8):tot (Q3z l)<=l.length+1:=by
 rw [<-Q9f 32 l];exact Z2r _ _
theorem Z3p (s:List UInt8): ∀x∈pieces 10 s,x.length<=s.length+1:=fun x hx=>by
 have:=Z1q _ x hx
 rw [Q9f] at this
 exact this
theorem Z2s : ∀(P:List (List UInt8)) (m:Nat),(∀x∈P,x.length<=m)-> ∀y∈Go.Proofs.YtploomncapiloaaGreatDoor.Q4C 10 P,y.length<=m+1
 | [],m,_,y,hy=>by cases hy
 | [x],m,h,y,hy=>by
  rw [Go.Proofs.YtploomncapiloaaGreatDoor.Q4C,List.mem_singleton] at hy
  subst hy
  have:=h y (by simp);omega
 |x::z::l,m,h,y,hy=>by
  rw [Go.Proofs.YtploomncapiloaaGreatDoor.Q4C] at hy
  rcases List.mem_cons.1 hy with hy|hy
  ·subst hy
   have:=h x (by simp)
   simp;omega
  ·exact Z2s (z::l) m (fun w hw=>h w (by simp [hw])) y hy
theorem Z8q (s:List UInt8): ∀y∈Q8F (pieces 10 s) (Q0I 10 s),y.length<=s.length+2:=fun y hy=>by
 have h:=Z2s (pieces 10 s) (s.length+1) (Z3p s)
 unfold Q8F at hy
 split at hy
 ·exact h y (List.dropLast_subset _ hy)
 ·exact h y hy
end Croft
namespace Go.Proofs.YtploomncapiloaaGreatDoor
open Go.RowKit Go.Sort Go.PlainAid Croft
theorem Q4j (E:Int) (h:E<1000000):(Q2h E).length<=26:=by
 unfold Q2h
 rw [List.length_append]
 have:=Q1c E (by omega)
 simp;omega
theorem Q5w (l:List Int) (E:Int) (hE:E<1000000) (h: ∀z∈l,z<18446744073709551616):(Q2G l E).length<=26+21 * l.length:=by
 unfold Q2G
 split
 ·have h2:=Q8l 20 (l.map Q3y) (fun x hx=>by
   obtain ⟨z,hz,rfl⟩:=List.mem_map.1 hx
   exact Q1c z (h z hz))
  rw [List.length_map] at h2
  omega
 ·have:=Q4j E hE;omega
theorem Z6e (l:List F): ∀z∈Q0g l,z<18446744073709551616:=fun z hz=>(Y1N l z hz).2
theorem Z3q (tx:List UInt8) (f:List Gt->List Int->List UInt8) (h: ∀gs os,Q0U gs os=0->(f gs os).length<=5000):(Q5e tx f).length<=5000:=by
 unfold Q5e
 split
 ·next he=>exact h _ _ (Q0Q.2 (Q6p he))
 ·have h1:=Z3l tx
  have h2:=Z1i tx
  have h3:=Q4j (Q0s tx).e (by omega)
  have h4:=Q1c (Q0s tx).at_ (by omega)
  rw [List.length_append,List.length_cons]
  omega
theorem Y1b {gs:List Gt} {os:List Int} (h:Q0U gs os=0):(Q7Q gs os).length<=5000:=by
 unfold Q7Q okT
 have:=Q7T h
 rw [List.length_append]
 simp;omega
theorem Y3J (n:List Int) {gs:List Gt} {os:List Int} (h:Q0U gs os=0):(Z3x n gs os).length<=5000:=by
 unfold Z3x
 have h1:=Z6L h n
 have h2:=Z2q gs os n
 have h3:=Q5w (Z6v gs os n) (Z3u gs os n) (by omega) (fun z hz=>by
  unfold Z6v at hz
  split at hz
  ·exact Z6e _ z hz
  ·cases hz)
 omega
theorem Y1c (n ds:List Int) {gs:List Gt} {os:List Int} (h:Q0U gs os=0):(Q5t n ds gs os).length<=5000:=by
 unfold Q5t
 have h2:=Z1k gs os (n.getD 0 0) (n.getD 1 0) (n.drop 2).length ds.length
 have h3:=Q5w (Q0g (Q3P gs os (Q0f (n.drop 2)))) _ (show Q4H gs os (n.getD 0 0) (n.getD 1 0) (n.drop 2).length ds.length<1000000 by omega) (Z6e _)
 have h4:(Q0g (Q3P gs os (Q0f (n.drop 2)))).length<=30:=by
  unfold Q0g Q3P
  rw [List.length_map,List.length_map]
  exact (Q0Q.1 h).o2
 omega
theorem Y1d (tx:List UInt8) (ws:List (List UInt8)):(Q6g tx ws).length<=5000:=by
 unfold Q6g
 dsimp only
 have:=Q4j 3 (by omega)
 split
 ·split
  ·exact Z3q tx _ fun gs os h=>Y1c _ _ h
  ·omega
 ·omega
theorem Q9X {k:Q1J} {m:Nat} (h:k.Ok m) (hm:m<=1000) (l:List Int):(Z3w k l).1.length<=100:=by
 unfold Z3w
 have:=h.2.2.2.1
 split
 ·have:=Q4j 2 (by omega);dsimp only;omega
 ·have:=Q5w [((k.last+1:Nat):Int)] 0 (by omega) (fun z hz=>by simp only [List.mem_singleton] at hz;omega)
  rw [List.length_singleton] at this
  dsimp only;omega
theorem Q5f {α:Type} {E:Int} {x:α} (h:E<1000000):((Q2h E,x):List UInt8×α).1.length<=100:=by
 have:=Q4j E h;dsimp only;omega
theorem Y4n {α:Type} {x:α}:((okT,x):List UInt8×α).1.length<=100:=by simp [okT]
theorem Z8r {k:Q1J} {m:Nat} (h:k.Ok m) (hm:m<=1000) (v:List UInt8) (n:List Int) {f:Q1J->List UInt8×Q1J} (hf:Q1B v n=some f):(f k).1.length<=100:=by
 unfold Q1B at hf
 split at hf
 ·cases hf;unfold Z5P;split
  ·exact Q9X h hm _
  ·exact Q5f (by omega)
 split at hf
 ·split at hf<;>cases hf
  unfold Q1v
  split
  ·exact Q5f (by omega)
  ·split
   ·exact Y4n
   ·exact Q5f (by omega)
 split at hf
 ·split at hf<;>cases hf
  unfold Q3u
  split
  ·exact Q5f (by omega)
  ·exact Q9X h hm _
 split at hf
 ·split at hf<;>cases hf
  unfold Q1w
  split
  ·exact Q9X h hm _
  ·exact Q5f (by omega)
 split at hf
 ·split at hf<;>cases hf
  unfold Q0Z
  split
  ·split
   ·exact Q9X h hm _
   ·exact Q5f (by omega)
  ·exact Q5f (by omega)
 split at hf
 ·split at hf<;>cases hf
  unfold Z4y
  split
  ·exact Q5f (by omega)
  ·next l hl=>
   obtain ⟨x,_,he⟩:=Z5T hl h
   have:=Q5w [Y5g k.n k.t l] 0 (by omega) (fun z hz=>by simp only [List.mem_singleton] at hz;rw [hz,he];exact (U64.of_ofF x).2)
   rw [List.length_singleton] at this
   dsimp only;omega
 split at hf
 ·split at hf<;>cases hf
  unfold Q5S
  split
  ·exact Q5f (by omega)
  ·exact Y4n
 cases hf
theorem Z8s {b:Q1O} {m:Nat} (h:b.Ok m) {f:Q1J->List UInt8×Q1J} (hf: ∀k,k.Ok m->(f k).1.length<=100):(Q6F b f).1.length<=100:=by
 unfold Q6F
 split
 ·exact Q5f (by omega)
 ·next k hk=>exact hf k (h.2 k hk)
theorem Y1e (n:List Int) (hn:n.length<=100000) (hi: ∀z∈n,z<18446744073709551616):(Q9H n).length<=2200000:=by
 unfold Q9H
 obtain ⟨h1,h2,h3,h4,h5⟩:=Q9d (n.headD 0) (Q5s n.tail)
 rw [Q4U] at h2
 have h6:n.tail.length<=n.length:=by simp
 have:=Q5w ((Q7w (n.headD 0) (Q5s n.tail)).1::(Q7w (n.headD 0) (Q5s n.tail)).2.1) (Q7w (n.headD 0) (Q5s n.tail)).2.2 (by omega) (fun z hz=>by
  rcases List.mem_cons.1 hz with hz|hz
  ·rw [hz];exact h3.2
  ·have h7: ∀(l:List Int),(∀z∈l,z<18446744073709551616)-> ∀s∈Q5s l,s.1<18446744073709551616:=fun l=>by
    induction l using Q5s.induct with
    |case1 x y l ih=>
     intro h s hs
     rw [Q5s] at hs
     rcases List.mem_cons.1 hs with hs|hs
     ·subst hs;exact h x (by simp)
     ·exact ih (fun z hz=>h z (by simp [hz])) s hs
    |case2 l hl=>
     intro h s hs
     cases l with
     |nil=>simp [Q5s] at hs
     |cons x l=>cases l with
      |nil=>simp [Q5s] at hs
      |cons y l=>exact absurd rfl (hl x y l)
   unfold Q7w at hz
   split at hz
   ·split at hz
    ·rw [(Q7a _).mem_iff] at hz
     unfold Q4i at hz
     obtain ⟨s,hs,rfl⟩:=List.mem_map.1 hz
     exact h7 n.tail (fun z hz=>hi z (List.mem_of_mem_tail hz)) s (List.mem_filter.1 hs).1
    ·cases hz
   ·cases hz)
 rw [List.length_cons] at this
 omega
theorem Y1f (n:List Int):(Y0s n).length<=5000:=by
 unfold Y0s
 have h1:=Z1n (n.getD 1 0) (n.drop 2) (n.getD 0 0)
 have:=Q5w (Z3c (n.getD 1 0) (n.drop 2) (n.getD 0 0) (Z1g (n.drop 2) (n.getD 0 0))) (Z1e (Z1g (n.drop 2) (n.getD 0 0))) (by unfold Z1e;split<;>omega) (fun z hz=>by
  unfold Z3c at hz
  split at hz
  ·exact Z6e _ z hz
  ·cases hz)
 omega
theorem Z8t {b:Q1O} (v:List UInt8) (n:List Int) (hn:n.length<=100000) (hi: ∀z∈n,z<18446744073709551616) {r:List UInt8×Q1O} (hr:Q0P b v n=some r):r.1.length<=2200000:=by
 have e3:=Q4j 3 (by omega)
 have e1:=Q4j 1 (by omega)
 unfold Q0P at hr
 split at hr
 ·split at hr<;>cases hr
  have:=Y1f n;dsimp only;omega
 split at hr
 ·split at hr<;>cases hr
  dsimp only
  split
  ·omega
  ·exact Y1e n hn hi
 split at hr
 ·split at hr<;>cases hr
  simp [okT]
 split at hr
 ·split at hr<;>cases hr
  have:=Z3q b.tx Q7Q fun gs os h=>Y1b h
  dsimp only;omega
 split at hr
 ·cases hr
  have:=Z3q b.tx (Z3x n) fun gs os h=>Y3J n h
  dsimp only;omega
 split at hr
 ·split at hr<;>cases hr
  unfold Y0t
  split
  ·simp [okT]
  ·dsimp only;omega
 cases hr
theorem Z4K {b:Q1O} {m:Nat} (h:b.Ok m) (hm:m<=1000) (v:List UInt8) (ws:List (List UInt8)) (hw:ws.length<=100000):(Q0C b v ws).1.length<=2200000:=by
 have e3:=Q4j 3 (by omega)
 have e2:=Q4j 2 (by omega)
 unfold Q0C
 split
 ·dsimp only
  unfold Q3g
  split
  ·dsimp only;omega
  ·split
   ·dsimp only;omega
   ·simp [okT]
 split
 ·have:=Y1d b.tx ws;dsimp only;omega
 split
 ·cases hp:Q0P b v (ws.map Q2s) with
  |some r=>
   refine Z8t v _ (by rw [List.length_map];exact hw) (fun z hz=> ?_) hp
   obtain ⟨x,_,rfl⟩:=List.mem_map.1 hz
   have:=(Q9R x).2
   omega
  |none=>
   rw [Option.getD_none]
   unfold Q2P
   split
   ·dsimp only;omega
   ·next f hf=>
    have:=Z8s (f:=f) h (fun k hk=>Z8r hk hm v _ hf)
    omega
 ·dsimp only;omega
theorem Q8G {st:Q1O} {l:List UInt8} (h:Z2c (Q3z l)=false):Q0v Q0C st [l]=([],st):=by
 simp only [Q0v]
 split
 ·rfl
 ·next v ws hw=>rw [hw] at h;rw [h];rfl
theorem Q9g {st:Q1O} {l v:List UInt8} {ws:List (List UInt8)} (hw:Q3z l=v::ws) (h:Z2c (Q3z l)=true):Q0v Q0C st [l]=((Q0C st v ws).1++ [10],(Q0C st v ws).2):=by
 simp only [Q0v]
 rw [hw] at h
 rw [hw]
 simp only [h,if_true,List.append_nil]
theorem Z2t {T:List (List UInt8)} {k:Nat} {l:List UInt8} (h:T[k]? =some l) (b:Q1O):
  Q0v Q0C b (T.take (k+1))=((Q0v Q0C b (T.take k)).1++(Q0v Q0C (Q0v Q0C b (T.take k)).2 [l]).1,(Q0v Q0C (Q0v Q0C b (T.take k)).2 [l]).2):=by
 rw [List.take_add_one,h]
 exact Z1w Q0C b (T.take k) [l]
theorem Y1g {st:Q1O} {m:Nat} (h:st.Ok m) (l:List UInt8):(Q0v Q0C st [l]).2.Ok (m+1):=by
 cases hh:Z2c (Q3z l) with
 |false=>rw [Q8G hh];exact h.more
 |true=>
  cases hw:Q3z l with
  |nil=>rw [hw] at hh;cases hh
  |cons v ws=>rw [Q9g hw hh];exact Y3s h v ws
theorem Z6O : ∀(l:List (List UInt8)) (k:Nat),tot (l.take k)<=tot l
 | [],k=>by simp
 |x::l,0=>by simp [tot]
 |x::l,k+1=>by
  have:=Z6O l k
  rw [List.take_succ_cons,Q2u,Q2u];omega
theorem Z3r (base db:Nat) (b:Q1O) (va:Value) (ws:List (List UInt8)) (w:World) (hd:Q2Z w base db b) (hdb:db<base) (h1:Q1g w va ws) (htx:b.tx.length<=2048) (htot:tot ws<=1000000) (hL:Z1t db w):
  Calls Tryz.prog 18 #[.pointer (some ⟨db,0,none⟩),.string (bs Q3M),va] w fun e w'=>e= .returned (.string (bs (Q3g b.tx ws).1))/\Q2Z w' base db ⟨(Q3g b.tx ws).2,b.ks⟩/\Left base db w w':=by
 obtain ⟨kp,hbx,hkp⟩:=hd
 have BX:=Qh hbx
 have HKP:=Qh hkp
 have KS:=Qh h1
 have HL:=Qh hL
 obtain ⟨A1,c1,rfl,hc1,hm1,hl1,hr1⟩:=h1
 suffices hgoal: ∀Post:Ending->World->Prop,(∀w',Q2Z w' base db ⟨(Q3g b.tx ws).2,b.ks⟩->Left base db w w'->Post (.returned (.string (bs (Q3g b.tx ws).1))) w')->Calls Tryz.prog 18 #[.pointer (some ⟨db,0,none⟩),.string (bs Q3M),.slice A1 ws.length c1] w Post from hgoal _ fun w' h1 h2=>⟨rfl,h1,h2⟩
 intro Post hpo
 have HP:=Qh hpo
 have hdl:=hbx.lt
 obtain ⟨sv,hsv⟩: ∃sv,sv=bs Q3M:=⟨_,rfl⟩
 have t_C:(sv.toList== [99,105,114,99,117,105,116])=true:=by rw [hsv,Q0a];rfl
 rw [<-hsv]
 have HTOT:=Qh (show∀k,(Q1A (ws.take k)).length<=1000000 from fun k=>by have h1:=Z3o (ws.take k);have h2:=Z6O ws k;omega)
 obtain ⟨N,hN⟩: ∃N,N=ws.length:=⟨_,rfl⟩
 have HNL:=Qh hN
 rw [<-hN]
 have hNb:N<=1000000:=by have:=Q4q ws;omega
 clear hpo hbx hkp hsv hr1 hm1 htot hN hL
 go_enter Tryz.func18,Tryz.ntmps18
 go_wp2_with fail
 go_loopw [7,8] (fun v i wr=> ∃k:Nat,k<=N/\i= .int .i64 k/\v= .string (bs (Q1A (ws.take k)))/\w=wr) (fun _ i _=>N - (intOf i).toNat)
 case atStart=>exact ⟨0,Nat.zero_le _,rfl,rfl,rfl⟩
 case round=>
  obtain ⟨k,hk,rfl,rfl,rfl⟩:=hrel
  by_cases hlt:k<N
  ·obtain ⟨A,c,hA,_,_,_,hr⟩:=KS.out
   injection hA with hA1 hA2 hA3
   subst hA1 hA3
   obtain ⟨b1,o1,x,rfl,hb1,hx,hcx⟩:=Q2W hr (k:=k) (by rw [<-HNL.out];exact hlt)
   have HNX:=Qh (show Q1A (ws.take (k+1))=if k=0 then x else Q1A (ws.take k)++32::x by
    rw [List.take_add_one,hx]
    by_cases q:k=0
    ·subst q;rfl
    ·rw [if_neg q]
     exact Z2b _ _ (by
      intro e
      have h:=congrArg List.length e
      rw [List.length_take,Nat.min_eq_left (by rw [<-HNL.out];omega)] at h
      exact q h))
   have hz1:=HTOT.out k
   have hz2:=HTOT.out (k+1)
   obtain ⟨sx,hsx⟩: ∃sx,sx=bs x:=⟨_,rfl⟩
   obtain ⟨so,hso⟩: ∃so,so=bs (Q1A (ws.take k)):=⟨_,rfl⟩
   have hzo:so.size<=1000000:=by rw [hso,Q0q];exact hz1
   have hzx:sx.size<=1000000:=by
    rw [hsx,Q0q]
    rw [HNX.out] at hz2
    split at hz2
    ·exact hz2
    ·rw [List.length_append,List.length_cons] at hz2;omega
   have HSX:=Qh hsx
   have HSO:=Qh hso
   rw [<-hsx] at hcx
   rw [<-hso]
   clear hr hb1 hx hA2 hsx hso hz1 hz2
   by_cases hk0:k=0
   ·subst hk0
    rw [Nat.add_zero] at hcx
    have HN:=Qh (show so++sx=bs (Q1A (ws.take (0+1))) by rw [HNX.out,if_pos rfl,HSO.out,HSX.out];exact Q0p [] _)
    go_wp2_with fail
    exact ⟨⟨1,by omega,rfl,congrArg Value.string HN.out,trivial⟩,by simp [intOf]<;>omega⟩
   ·have HN:=Qh (show so++⟨#[32]⟩++sx=bs (Q1A (ws.take (k+1))) by
     rw [HNX.out,if_neg hk0,HSO.out,HSX.out]
     show bs _++bs [32]++bs _=_
     rw [Q0p,Q0p];simp)
    obtain ⟨s1,hs1'⟩: ∃s1,s1=so++(⟨#[32]⟩:ByteArray):=⟨_,rfl⟩
    have hz1:s1.size<=1000001:=by rw [hs1',ByteArray.size_append];have:(⟨#[32]⟩:ByteArray).size=1:=rfl;omega
    have t1: ∀W,(Op.stringOp .add so ⟨#[32]⟩).run Tryz.prog W= .ok (.string s1) W:=fun W=>by
     rw [hs1'];exact run_string_add_sum W so _ (by have:(⟨#[32]⟩:ByteArray).size=1:=rfl;omega)
    rw [<-hs1'] at HN
    clear hs1'
    go_wp2_with fail
    exact ⟨⟨k+1,by omega,by go_num,congrArg Value.string HN.out,trivial⟩,by simp [intOf]<;>omega⟩
  ·obtain rfl:k=N:=by omega
   rw [show ws.take k=ws from List.take_of_length_le (by rw [<-HNL.out];exact Nat.le_refl _)]
   have hz:=HTOT.out k
   rw [show ws.take k=ws from List.take_of_length_le (by rw [<-HNL.out];exact Nat.le_refl _)] at hz
   obtain ⟨sj,hsj⟩: ∃sj,sj=bs (Q1A ws):=⟨_,rfl⟩
   have hzj:sj.size=(Q1A ws).length:=by rw [hsj,Q0q]
   obtain ⟨st,hst⟩: ∃st,st=bs b.tx:=⟨_,rfl⟩
   have hzt:st.size=b.tx.length:=by rw [hst,Q0q]
   have hc0:w.cell? ⟨db,0,none⟩=some (.string st):=by rw [hst];exact BX.out.cell (i:=0) rfl
   have hf0:=BX.out.frozen 0
   have hzj2:sj.size<=1000000:=by omega
   have hzt2:st.size<=2048:=by omega
   rw [<-hsj]
   by_cases hw:ws= []
   ·have hk0:k=0:=by rw [HNL.out,hw];rfl
    have hbl:((k:Int)==0)=true:=by rw [beq_iff_eq];omega
    have HM:=Qh (show Q3g b.tx ws=(Q2h 3,b.tx) from if_pos hw)
    rw [HM.out] at HP
    have CE:=Qh (Q1L 3 w (by omega) (by omega) HL.out.lay.2.1)
    clear hw hk0 hlt hz hsj hst
    go_wp2_with fail
    refine CE.out.mono ?_
    rintro e W2 ⟨rfl,hb⟩
    have HK:=Qh (HP.out W2 ⟨kp,BX.out.below hb,HKP.out.below hb⟩ (.of_below hb))
    clear hb
    try dsimp only
    go_wp2_with fail
    exact HK.out
   ·have hkp:0<k:=by rw [HNL.out];exact List.length_pos_iff.2 hw
    have hbl:((k:Int)==0)=false:=by rw [beq_eq_false_iff_ne];omega
    by_cases hbig:2048<b.tx.length+((Q1A ws).length+1)
    ·have HM:=Qh (show Q3g b.tx ws=(Q2h 2,b.tx) by unfold Q3g;rw [if_neg hw,if_pos hbig])
     rw [HM.out] at HP
     have CE:=Qh (Q1L 2 w (by omega) (by omega) HL.out.lay.2.1)
     have hI:(st.size:Int)+(sj.size:Int)+1>2048:=by omega
     have hdI:decide ((st.size:Int)+(sj.size:Int)+1>2048)=true:=decide_eq_true hI
     clear hw hlt hz hsj hst hbig hzj hzt
     go_wp2_with fail
     refine CE.out.mono ?_
     rintro e W2 ⟨rfl,hb⟩
     have HK:=Qh (HP.out W2 ⟨kp,BX.out.below hb,HKP.out.below hb⟩ (.of_below hb))
     clear hb
     try dsimp only
     go_wp2_with fail
     exact HK.out
    ·have HM:=Qh (show Q3g b.tx ws=(okT,b.tx++(Q1A ws++ [10])) by unfold Q3g;rw [if_neg hw,if_neg hbig])
     rw [HM.out] at HP
     have hI: ¬(st.size:Int)+(sj.size:Int)+1>2048:=by omega
     have hdI:decide ((st.size:Int)+(sj.size:Int)+1>2048)=false:=decide_eq_false hI
     obtain ⟨s2,hs2⟩: ∃s2,s2=sj++(⟨#[10]⟩:ByteArray):=⟨_,rfl⟩
     have hz2:s2.size=sj.size+1:=by rw [hs2,ByteArray.size_append];rfl
     obtain ⟨s3,hs3⟩: ∃s3,s3=st++s2:=⟨_,rfl⟩
     have t1: ∀W,(Op.stringOp .add sj ⟨#[10]⟩).run Tryz.prog W= .ok (.string s2) W:=fun W=>by
      rw [hs2];exact run_string_add_sum W sj _ (by have:(⟨#[10]⟩:ByteArray).size=1:=rfl;omega)
     have t2: ∀W,(Op.stringOp .add st s2).run Tryz.prog W= .ok (.string s3) W:=fun W=>by
      rw [hs3];exact run_string_add_sum W st s2 (by omega)
     have hs3e:s3=bs (b.tx++(Q1A ws++ [10])):=by
      rw [hs3,hs2,hst,hsj]
      show bs _++(bs _++bs [10])=_
      rw [Q0p,Q0p]
     have HK:=Qh (HP.out (w.setCell ⟨db,0,none⟩ (.string s3)) ⟨kp,(show Box _ db 47 [.string (bs (b.tx++(Q1A ws++ [10]))),kp] by rw [<-hs3e];exact BX.out.set 0 (.string s3)),HKP.out.grown (Q0F w db 0 (.string s3)) hdb⟩ (.of_grown (Q0F w db 0 (.string s3))))
     clear hw hlt hz hsj hst hbig hzj hzt hs2 hs3 hs3e
     go_wp2_with fail
     exact HK.out
theorem Z6f (vn vd:Value) (n ds:List Int) (lo db:Nat) (tx:List UInt8) (kp:Value) (w:World) (hd:Box w db 47 [.string (bs tx),kp]) (hL:Lay w) (h1:Q0j w lo vn n) (hn0: ∀z∈n,0<=z) (h2:Q0y w vd ds) (hn2:2<=n.length):
  Calls Tryz.prog 40 #[.pointer (some ⟨db,0,none⟩),.string (bs Q9a),vn,vd] w fun e w'=>e= .returned (.string (bs (Q5e tx (Q5t n ds))))/\Below w.heap.size w w':=by
 by_cases he:(Q0s tx).e=0
 ·match n,hn2 with
  |z0::z1::r,_=>exact Z8o vn vd z0 z1 r ds lo db tx kp w hd hL h1 hn0 h2 he
 ·exact Z1m _ vn vd _ db tx kp w hd hL he
theorem Z8u (base db:Nat) (b:Q1O) (va:Value) (ws:List (List UInt8)) (w:World) (hd:Q2Z w base db b) (h1:Q1g w va ws) (htot:tot ws<=1000000) (hL:Z1t db w):
  Calls Tryz.prog 18 #[.pointer (some ⟨db,0,none⟩),.string (bs Q9a),va] w fun e w'=>e= .returned (.string (bs (Q6g b.tx ws)))/\Below w.heap.size w w':=by
 have HL:=Qh hL
 have KS:=Qh h1
 obtain ⟨kp,hbx,_⟩:=hd
 have BX:=Qh hbx
 have hdl:=hbx.lt
 have CI:=Qh (Z6b [47] va ws w h1)
 obtain ⟨A,c,rfl,hc,_,_,_⟩:=h1
 have HSZ:=Qh (show∀x∈ws,x.length<=1000000 from fun x hx=>by have:=Z1q ws x hx;omega)
 have hwl:ws.length<=1000000:=by have:=Q4q ws;omega
 suffices hgoal: ∀Post:Ending->World->Prop,(∀w',Below w.heap.size w w'->Post (.returned (.string (bs (Q6g b.tx ws)))) w')->Calls Tryz.prog 18 #[.pointer (some ⟨db,0,none⟩),.string (bs Q9a),.slice A ws.length c] w Post from hgoal _ fun w' h=>⟨rfl,h⟩
 intro Post hpo
 have HP:=Qh hpo
 have CF3:=Qh (fun W (hW:Lay W)=>Q1L 3 W (by omega) (by omega) hW.2.1)
 obtain ⟨i,hi⟩: ∃i,i=Z3d [47] ws:=⟨_,rfl⟩
 obtain ⟨N,hN⟩: ∃N,N=ws.length:=⟨_,rfl⟩
 have HW:=Qh (show Q6g b.tx ws=if i<N then (if Q0X (ws.take i)=true/\Q0X (ws.drop (i+1))=true/\2<=i then Q5e b.tx (Q5t ((ws.take i).map Q2s) ((ws.drop (i+1)).map Q2s)) else Q2h 3) else Q2h 3 by rw [hi,hN];rfl)
 obtain ⟨sv,hsv⟩: ∃sv,sv=bs Q9a:=⟨_,rfl⟩
 have t_Circuit:(sv.toList== [99,105,114,99,117,105,116])=false:=by rw [hsv,Q0a];decide
 have t_Work:(sv.toList== [119,111,114,107])=true:=by rw [hsv,Q0a];rfl
 have t_Deal:(sv.toList== [100,101,97,108])=false:=by rw [hsv,Q0a];decide
 have t_Multiply:(sv.toList== [109,117,108,116,105,112,108,121])=false:=by rw [hsv,Q0a];decide
 have t_Open:(sv.toList== [111,112,101,110])=false:=by rw [hsv,Q0a];decide
 have t_Clear:(sv.toList== [99,108,101,97,114])=false:=by rw [hsv,Q0a];decide
 have t_Show:(sv.toList== [115,104,111,119])=false:=by rw [hsv,Q0a];decide
 have t_Run:(sv.toList== [114,117,110])=false:=by rw [hsv,Q0a];decide
 have HSV:=Qh hsv
 rw [<-hsv]
 rw [<-hi] at CI
 have HNL:=Qh hN
 rw [<-hN] at CI hc hwl⊢
 clear hpo hL hbx hi hN htot hsv
 by_cases hlt:i<N
 ·rw [if_pos hlt] at CI HW
  have hi0:decide ((i:Int)>=0)=true:=by simp
  have hs1:=Z4G A N c i (by omega)
  have hw1:IntKind.i64.wrap ((i:Int)+1)=(i:Int)+1:=IntWalk.i64_in _ (by omega)
  have hs2:=Q3G A N c (i+1) ((i:Int)+1) (by omega) (by omega)
  have ha:=(KS.out).first i (by rw [<-HNL.out];omega)
  have hb:=(show Q1g w (.slice A ws.length c) ws from KS.out).from_ (i+1) (by rw [<-HNL.out];omega)
  rw [<-HNL.out] at hb
  obtain ⟨vt,hvt⟩: ∃vt,vt=Value.slice (if c=i+1 then A else A.map (·.add ((i+1) * 1))) (N - (i+1)) (c - (i+1)):=⟨_,rfl⟩
  rw [<-hvt] at hb hs2
  have KA:=Qh ha
  have hal:(ws.take i).length=i:=by rw [List.length_take,<-HNL.out];omega
  have hnl:Q0X (ws.take i)=true->(Q0x (ws.take i)).length=i:=fun h=>by unfold Q0x;rw [if_pos h,List.length_map,hal]
  have CN2:=Qh (Q3R vt _ w hb (fun x hx=>by have:=HSZ.out x (List.mem_of_mem_drop hx);omega))
  have CN1:=Qh (fun W (hW:Below w.heap.size w W)=>Q3R _ _ W (KA.out.below hW) (fun x hx=>by have:=HSZ.out x (List.mem_of_mem_take hx);omega))
  obtain ⟨a,hA⟩: ∃a,a=ws.take i:=⟨_,rfl⟩
  obtain ⟨d,hD⟩: ∃d,d=ws.drop (i+1):=⟨_,rfl⟩
  rw [<-hA] at CN1 hnl HW
  rw [<-hD] at CN2 HW
  have HNLA:=Qh hnl
  obtain ⟨La,hLa⟩: ∃La,La=Q0x a:=⟨_,rfl⟩
  obtain ⟨Ld,hLd⟩: ∃Ld,Ld=Q0x d:=⟨_,rfl⟩
  have HLA:=Qh hLa
  have HLD:=Qh hLd
  rw [<-hLa] at CN1
  rw [<-hLd] at CN2
  obtain ⟨o1,ho1⟩: ∃o1,o1=Q0X a:=⟨_,rfl⟩
  obtain ⟨o2,ho2⟩: ∃o2,o2=Q0X d:=⟨_,rfl⟩
  have HO1:=Qh ho1
  have HO2:=Qh ho2
  rw [<-ho1] at CN1 HW
  rw [<-ho2] at CN2 HW
  clear ha hb hvt hal hnl hA hD hLa hLd ho1 ho2
  go_enter Tryz.func18,Tryz.ntmps18
  go_wp2_with fail
  refine CI.out.mono ?_
  rintro e w' ⟨rfl,rfl⟩
  try dsimp only
  go_wp2_with fail
  refine CN2.out.mono ?_
  rintro e W1 ⟨v1,rfl,hw1',hb1⟩
  obtain ⟨A2,c2,rfl,hcc2,_⟩:=Q0k hw1'.1
  have K2:=Qh hw1'
  have B1:=Qh hb1
  clear hw1' hb1
  try dsimp only
  cases o2 with
  |false=>
   have HWE:=Qh (show Q6g b.tx ws=Q2h 3 by rw [HW.out,if_neg (by simp)])
   rw [HWE.out] at HP
   go_wp2_with fail
   refine (CF3.out _ (HL.out.low (B1.out.mono (Nat.le_of_lt hdl))).lay).mono ?_
   rintro e W3 ⟨rfl,hb⟩
   have BB:=Qh (Q0b B1.out hb B1.out.size)
   clear hb
   try dsimp only
   go_wp2_with fail
   exact HP.out _ BB.out
  |true=>
   go_wp2_with fail
   refine (CN1.out _ B1.out).mono ?_
   rintro e W2 ⟨v2,rfl,hw2',hb2⟩
   obtain ⟨A1,c1,rfl,hcc1,_⟩:=Q0k hw2'.1
   have K1:=Qh hw2'
   have B2:=Qh (Q0b B1.out hb2 B1.out.size)
   have K22:=Qh (K2.out.below hb2)
   have LW:=Qh (HL.out.low (B2.out.mono (Nat.le_of_lt hdl)))
   have CF:=Qh (CF3.out _ LW.out.lay)
   clear hw2' hb2
   try dsimp only
   cases o1 with
   |false=>
    have HWE:=Qh (show Q6g b.tx ws=Q2h 3 by rw [HW.out,if_neg (by simp)])
    rw [HWE.out] at HP
    go_wp2_with fail
    refine CF.out.mono ?_
    rintro e W3 ⟨rfl,hb⟩
    have BB:=Qh (Q0b B2.out hb B2.out.size)
    clear hb
    try dsimp only
    go_wp2_with fail
    exact HP.out _ BB.out
   |true=>
    have hLi:=HNLA.out HO1.out.symm
    rw [<-HLA.out] at hLi
    obtain ⟨k,hk⟩: ∃k,k=La.length:=⟨_,rfl⟩
    have HKL:=Qh hk
    rw [<-hk] at hLi
    rw [<-hk]
    by_cases h2:2<=i
    ·have hqI:(k:Int)>=2:=by omega
     have hqd:decide ((k:Int)>=2)=true:=decide_eq_true hqI
     have hLa:La=a.map Q2s:=by rw [HLA.out];exact if_pos HO1.out.symm
     have hLd:Ld=d.map Q2s:=by rw [HLD.out];exact if_pos HO2.out.symm
     have HWE:=Qh (show Q6g b.tx ws=Q5e b.tx (Q5t La Ld) by rw [HW.out,if_pos (by simp;exact h2),hLa,hLd])
     rw [HWE.out] at HP
     have CCC:=Qh (Z6f _ _ La Ld w.heap.size db b.tx kp W2 (BX.out.below B2.out) LW.out.lay (K1.out.less B1.out.size) (by rw [hLa];exact Q3v HO1.out.symm) K22.out.is (by omega))
     rw [<-HSV.out,<-hk] at CCC
     clear hLa hLd hLi hk
     go_wp2_with fail
     refine CCC.out.mono ?_
     rintro e W3 ⟨rfl,hb⟩
     have BB:=Qh (Q0b B2.out hb B2.out.size)
     clear hb
     try dsimp only
     go_wp2_with fail
     exact HP.out _ BB.out
    ·have hqI: ¬(k:Int)>=2:=by omega
     have hqd:decide ((k:Int)>=2)=false:=decide_eq_false hqI
     have HWE:=Qh (show Q6g b.tx ws=Q2h 3 by rw [HW.out,if_neg (fun h=>h2 h.2.2)])
     rw [HWE.out] at HP
     clear hLi hk
     go_wp2_with fail
     refine CF.out.mono ?_
     rintro e W3 ⟨rfl,hb⟩
     have BB:=Qh (Q0b B2.out hb B2.out.size)
     clear hb
     try dsimp only
     go_wp2_with fail
     exact HP.out _ BB.out
 ·rw [if_neg hlt] at CI HW
  rw [HW.out] at HP
  have CN:=Qh (Q3R _ ws w KS.out (fun x hx=>by have:=HSZ.out x hx;omega))
  rw [<-HNL.out] at CN
  obtain ⟨o1,ho1⟩: ∃o1,o1=Q0X ws:=⟨_,rfl⟩
  rw [<-ho1] at CN
  clear HNL hlt ho1
  go_enter Tryz.func18,Tryz.ntmps18
  go_wp2_with fail
  refine CI.out.mono ?_
  rintro e w' ⟨rfl,rfl⟩
  try dsimp only
  go_wp2_with fail
  refine CN.out.mono ?_
  rintro e W2 ⟨v2,rfl,hw2',hb2⟩
  obtain ⟨A1,c1,rfl,hcc1,_⟩:=Q0k hw2'.1
  obtain ⟨k,hk⟩: ∃k,k=(Q0x ws).length:=⟨_,rfl⟩
  rw [<-hk]
  have B2:=Qh hb2
  have CF:=Qh (CF3.out _ (HL.out.low (B2.out.mono (Nat.le_of_lt hdl))).lay)
  clear hw2' hb2 hk hcc1
  try dsimp only
  cases o1 with
  |false=>
   go_wp2_with fail
   refine CF.out.mono ?_
   rintro e W3 ⟨rfl,hb⟩
   have BB:=Qh (Q0b B2.out hb B2.out.size)
   clear hb
   try dsimp only
   go_wp2_with fail
   exact HP.out _ BB.out
  |true=>
   by_cases h2:(k:Int)>=2
   ·have hqd:decide ((k:Int)>=2)=true:=decide_eq_true h2
    go_wp2_with fail
    refine CF.out.mono ?_
    rintro e W3 ⟨rfl,hb⟩
    have BB:=Qh (Q0b B2.out hb B2.out.size)
    clear hb
    try dsimp only
    go_wp2_with fail
    exact HP.out _ BB.out
   ·have hqd:decide ((k:Int)>=2)=false:=decide_eq_false h2
    go_wp2_with fail
    refine CF.out.mono ?_
    rintro e W3 ⟨rfl,hb⟩
    have BB:=Qh (Q0b B2.out hb B2.out.size)
    clear hb
    try dsimp only
    go_wp2_with fail
    exact HP.out _ BB.out
end Go.Proofs.YtploomncapiloaaGreatDoor
