/- Parts of the proof, put together by a program: DeskT Grid DeskM GridP. No condition. -/
import Derived.Test.YtploomncapiloaaGreatDoorSAJ
import Derived.Deep.AppendLies
import Derived.Maps.AppendAt
set_option maxRecDepth 100000
set_option maxHeartbeats 8000000
namespace Go.Proofs.YtploomncapiloaaGreatDoor
open Go.RowKit Go.Sort Go.PlainAid Croft
theorem Q8l (m:Nat): ∀(l:List (List UInt8)),(∀x∈l,x.length<=m)->(Q1A l).length<=(m+1) * l.length
 | [],_=>by simp [Q1A]
 | [x],h=>by have:=h x (by simp);simp [Q1A];omega
 |x::y::l,h=>by
  have h1:=h x (by simp)
  have h2:=Q8l m (y::l) (fun z hz=>h z (by simp [hz]))
  rw [Q1A,List.length_append,List.length_cons,List.length_cons,Nat.mul_add]
  omega
theorem Q6U (va:Value) (zs:List Int) (E:Int) (w:World) (h1:Q0h w va zs) (hl:zs.length<=1000000) (h0:0<=E) (hE1:E<=1000) (htab:Lib.TabIs Tryz.prog w "internal/strconv.uint64pow10" .u64 Lib.pow10Tab):
  Calls Tryz.prog 53 #[va,.int .i64 E] w fun e w'=>e= .returned (.string (bs (Q2G zs E)))/\Below w.heap.size w w':=by
 have KS:=Qh h1
 have HT:=Qh htab
 have CF:=Qh (Q2H E w h0 hE1 htab)
 obtain ⟨A1,c1,rfl,hc1,hm1,hl1,hi1,hr1⟩:=h1
 suffices hgoal: ∀Post:Ending->World->Prop,(∀w',Below w.heap.size w w'->Post (.returned (.string (bs (Q2G zs E)))) w')->Calls Tryz.prog 53 #[.slice A1 zs.length c1,.int .i64 E] w Post from hgoal _ fun w' h1=>⟨rfl,h1⟩
 intro Post hpo
 have HP:=Qh hpo
 clear hm1 hpo hr1 hi1 htab
 by_cases hE:E=0
 ·subst hE
  have HTD:=Qh (show Q2G zs 0=Q1A (zs.map Q3y) from if_pos rfl)
  go_enter Tryz.func53,Tryz.ntmps53
  go_wp2_with fail
  go_loopw [5,14] (fun v i wr=> ∃k:Nat,k<=zs.length/\i= .int .i64 k/\Q0J wr w.heap.size v ((zs.take k).map Q3y)/\Below w.heap.size w wr) (fun _ i _=>zs.length - (intOf i).toNat)
  case atStart=>exact ⟨0,Nat.zero_le _,rfl,Q0J.nil _ _,Below.refl _ _⟩
  case round=>
   obtain ⟨k,hk,rfl,hown,hbel⟩:=hrel
   have KW:=Qh hown
   have BEL:=Qh hbel
   have hs1:=hbel.size
   clear hown hbel
   by_cases hlt:k<zs.length
   ·obtain ⟨A,c,hA,_,_,_,hi,hr⟩:=KS.out.below BEL.out
    injection hA with hA1 hA2 hA3
    subst hA1 hA3
    obtain ⟨b1,o1,z,rfl,hb1,hz,hzu,hcz⟩:=Q0O hr hi hlt
    have HNX:=Qh (show (zs.take (k+1)).map Q3y=(zs.take k).map Q3y++ [Q3y z] by rw [List.take_add_one,hz,List.map_append];rfl)
    have HKL:=Qh (show ((zs.take k).map Q3y).length=k by rw [List.length_map,List.length_take];omega)
    have CFM:=Qh (Z5f z wr hzu.1 hzu.2 (Q0M HT.out BEL.out))
    obtain ⟨sz,hsz⟩: ∃sz,sz=bs (Q3y z):=⟨_,rfl⟩
    have HSZ:=Qh hsz
    rw [<-hsz] at CFM
    clear hr hi hb1 hz hA2 hzu hsz
    go_wp2_with fail
    refine CFM.out.mono ?_
    rintro e W2 ⟨rfl,q,os,hw2⟩
    have BG:=Qh (show Below wr.heap.size wr W2 by rw [hw2];exact below_grow wr q os)
    have KW2:=Qh (KW.out.below BG.out)
    have B2:=Qh (Q0b BEL.out BG.out hs1)
    have hs2:=B2.out.size
    clear hw2 hcz
    try dsimp only
    go_wp2_with (at_builtin;go_loud (refine Q3o rfl _ _ rfl w.heap.size _ _ (Q3y z) W2.heap.size 1 rfl (KW2.out.alloc _) rfl (by rw [<-HSZ.out];exact Q0o _ _ _) (by rw [HKL.out];omega) (by rw [size_alloc];omega) ?_))
    intro v' w5 hown' hbel'
    have K5:=Qh hown'
    have B5:=Qh ((B2.out.alloc hs2 (.cells #[.string sz] 9)).trans hbel')
    clear hown' hbel'
    go_wp2_with fail
    exact ⟨⟨k+1,by omega,by go_num,by rw [HNX.out,List.map_take];exact K5.out,B5.out⟩,by simp [intOf]<;>omega⟩
   ·obtain rfl:k=zs.length:=by omega
    rw [show zs.take zs.length=zs from List.take_length] at KW
    have CJ:=Qh (Z6s _ _ wr KW.out.is (by
     have h:=Q8l 20 (zs.map Q3y) (fun x hx=>by
      obtain ⟨z,hz,rfl⟩:=List.mem_map.1 hx
      exact Q1c z (by have:=(KS.out.u64 z hz).2;omega))
     rw [List.length_map] at h
     omega))
    rw [<-HTD.out] at CJ
    obtain ⟨nl,hnl⟩: ∃nl,nl=zs.map Q3y:=⟨_,rfl⟩
    rw [<-hnl] at KW
    clear hnl
    obtain ⟨Ao,co,hv,_,_⟩:=Q0k KW.out.1
    subst hv
    go_wp2_with fail
    refine CJ.out.mono ?_
    rintro e W2 ⟨rfl,hb⟩
    have B2:=Qh (Q0b BEL.out hb hs1)
    clear hb
    try dsimp only
    go_wp2_with fail
    exact HP.out _ B2.out
 ·have HTD:=Qh (show Q2G zs E=Q2h E from if_neg hE)
  have hb:(E !=0)=true:=by rw [bne_iff_ne];exact hE
  rw [<-HTD.out] at CF
  clear hE
  go_enter Tryz.func53,Tryz.ntmps53
  go_wp2_with fail
  refine CF.out.mono ?_
  rintro e w' ⟨rfl,hb⟩
  try dsimp only
  go_wp2_with fail
  exact HP.out _ hb
end Go.Proofs.YtploomncapiloaaGreatDoor
namespace Go.Proofs.YtploomncapiloaaGreatDoor
open Go.RowKit Croft
def Z0w (w:World) (vs:List Value) (rows:List (List Int)):Prop:=vs.length=rows.length/\ ∀(i:Nat) (x:Value) (r:List Int),vs[i]? =some x->rows[i]? =some r->Q0h w x r
theorem Z0w.below {w w':World} {vs:List Value} {rows:List (List Int)} (h:Z0w w vs rows) (hb:Below w.heap.size w w'):Z0w w' vs rows:=⟨h.1,fun i x r hx hr=>(h.2 i x r hx hr).below hb⟩
def Q3Z (w:World) (v:Value) (rows:List (List Int)):Prop:=
 ∃A cap vs,v= .slice A rows.length cap/\rows.length<=cap/\cap<=maxLen/\rows.length<=5864062014805/\Cells w A vs/\Z0w w vs rows
theorem Q3Z.below {w w':World} {v:Value} {rows:List (List Int)} (h:Q3Z w v rows) (hb:Below w.heap.size w w'):Q3Z w' v rows:=by
 obtain ⟨A,cap,vs,h1,h2,h3,h4,h5,h6⟩:=h
 exact ⟨A,cap,vs,h1,h2,h3,h4,h5.below hb,h6.below hb⟩
theorem Z2H {w:World} {A:Option Addr} {vs:List Value} {rows:List (List Int)} (h:Cells w A vs) (h2:Z0w w vs rows) {k:Nat} (hk:k<rows.length):
  ∃b o x r,A=some ⟨b,o,none⟩/\b<w.heap.size/\vs[k]? =some x/\rows[k]? =some r/\Q0h w x r/\w.cell? ⟨b,o+k,none⟩=some x:=by
 have hk2:k<vs.length:=by rw [h2.1];exact hk
 obtain ⟨b,o,rfl,hb,hc⟩:=h.at_ hk2
 refine ⟨b,o,vs[k],rows[k],rfl,hb,List.getElem?_eq_getElem hk2,List.getElem?_eq_getElem hk,h2.2 k _ _ (List.getElem?_eq_getElem hk2) (List.getElem?_eq_getElem hk), ?_⟩
 rw [hc k hk2,List.getElem?_eq_getElem hk2]
structure Q1W (w:World) (base:Nat) (v:Value) (vs:List Value) (rows:List (List Int)):Prop where
 outer:w.ownsRow base 64 1 v rows.length vs
 len:rows.length<=5864062014805
 row: ∀(i:Nat) (x:Value) (r:List Int),vs[i]? =some x->rows[i]? =some r->Q0c w base x r
 apart: ∀(i j:Nat) (x y:Value) (b:Nat),vs[i]? =some x->vs[j]? =some y->x.ownBlock=some b->y.ownBlock=some b->i=j
theorem Q1W.below {w w':World} {base:Nat} {v:Value} {vs:List Value} {rows:List (List Int)} (h:Q1W w base v vs rows) (hb:Below w.heap.size w w'):Q1W w' base v vs rows:=
 ⟨Q4O h.outer hb,h.len,fun i x r hx hr=>(h.row i x r hx hr).below hb,h.apart⟩
theorem Q1W.drewN {w:World} {base:Nat} {v:Value} {vs:List Value} {rows:List (List Int)} (h:Q1W w base v vs rows) (n:Nat):Q1W (w.drewN n) base v vs rows:=⟨h.outer,h.len,h.row,h.apart⟩
theorem Q1W.alloc {w:World} {base:Nat} {v:Value} {vs:List Value} {rows:List (List Int)} (h:Q1W w base v vs rows) (o:Obj):Q1W (w.alloc o) base v vs rows:=
 h.below ((Below.refl _ _).alloc (Nat.le_refl _) o)
theorem Q1W.nil (w:World) (base:Nat):Q1W w base (.slice none 0 0) [] []:=
 ⟨World.ownsRow_nil _ _ _ _,by simp,fun i x r hx=>by simp at hx,fun i j x y b hx=>by simp at hx⟩
theorem Q1W.vlen {w:World} {base:Nat} {v:Value} {vs:List Value} {rows:List (List Int)} (h:Q1W w base v vs rows):vs.length=rows.length:=by
 have:=h.outer.1;omega
theorem Q1W.is {w:World} {base:Nat} {v:Value} {vs:List Value} {rows:List (List Int)} (h:Q1W w base v vs rows):Q3Z w v rows:=by
 obtain ⟨A,cap,rfl,h4,h5⟩:=Q0k h.outer
 exact ⟨A,cap,vs,rfl,h4,h5,h.len,Cells.of_own h.outer,h.vlen,fun i x r hx hr=>(h.row i x r hx hr).is⟩
theorem Q5b {w:World} {base:Nat} {e:TypeId} {size n:Nat} {v:Value} {xs:List Value} {g:Nat} (h:w.ownsRow base e size v n xs) (hg:v.ownBlock=some g): ∃cur,w.heap[g]? =some (.cells cur e (0,0)):=by
 rcases h.2 with ⟨rfl,_⟩|⟨g',cap,cur,rfl,_,hgg,_⟩
 ·simp [Value.ownBlock] at hg
 ·simp [Value.ownBlock] at hg
  subst hg
  exact ⟨cur,hgg⟩
theorem Q0W {w:World} {b1 b2:Nat} {e1 e2:TypeId} {s1 s2 n1 n2:Nat} {v1 v2:Value} {x1 x2:List Value} {g:Nat} (h1:w.ownsRow b1 e1 s1 v1 n1 x1) (h2:w.ownsRow b2 e2 s2 v2 n2 x2) (hne:e1≠e2) (hg:v1.ownBlock=some g):v2.ownBlock≠some g:=by
 intro hg2
 obtain ⟨c1,k1⟩:=Q5b h1 hg
 obtain ⟨c2,k2⟩:=Q5b h2 hg2
 rw [k1] at k2
 injection k2 with k2
 injection k2 with _ k2
 exact hne k2
theorem Q0F (w:World) (g j:Nat) (u:Value):w.grownBy (w.setCell ⟨g,j,none⟩ u) (some g):=
 ⟨rfl,rfl,rfl,by simp [World.setCell],fun i _ hi=>Below.heap_setCell _ _ _ _ (by rintro rfl;exact hi rfl)⟩
theorem Q0c.kept {w w':World} {base:Nat} {v:Value} {zs:List Int} {row:Option Nat} (h:Q0c w base v zs) (hg:w.grownBy w' row) (hne:v.ownBlock=none∨v.ownBlock≠row):Q0c w' base v zs:=⟨h.1.kept hg hne,h.2⟩
section
variable {w :World} {base:Nat} {v:Value} {vs:List Value} {rows:List (List Int)}
theorem Q1W.cell {g n c:Nat} (h:Q1W w base (.slice (some ⟨g,0,none⟩) n c) vs rows) {i:Nat} {x:Value} (hx:vs[i]? =some x):w.cell? ⟨g,i,none⟩=some x:=by
 have hn:n=rows.length:=by
  rcases h.outer.2 with ⟨hv,_⟩|⟨g',cap,cur,hv,_⟩
  ·simp at hv
  ·injection hv
 subst hn
 have hi:=(List.getElem?_eq_some_iff.1 hx).1
 have hl:=h.vlen
 rw [h.outer.cellAt i (by omega),hx]
theorem Q1W.frozen {g n c:Nat} (h:Q1W w base (.slice (some ⟨g,0,none⟩) n c) vs rows) (i:Nat):w.frozen? ⟨g,i,none⟩=false:=by
 have hn:n=rows.length:=by
  rcases h.outer.2 with ⟨hv,_⟩|⟨g',cap,cur,hv,_⟩
  ·simp at hv
  ·injection hv
 subst hn
 exact h.outer.frozenAt i
theorem Q1W.at_ (h:Q1W w base v vs rows) {i:Nat} {r:List Int} (hr:rows[i]? =some r) (hp:0<r.length): ∃b c,vs[i]? =some (.slice (some ⟨b,0,none⟩) r.length c)/\Q0c w base (.slice (some ⟨b,0,none⟩) r.length c) r/\r.length<=c/\c<=maxLen/\base<=b/\b<w.heap.size:=by
 have hi:i<vs.length:=by rw [h.vlen];exact (List.getElem?_eq_some_iff.1 hr).1
 have hv:vs[i]? =some vs[i]:=List.getElem?_eq_getElem hi
 have ho:=h.row i _ _ hv hr
 obtain ⟨b,c,hf,hb1,hb2,hc1,hc2⟩:=ho.form hp
 rw [hf] at ho
 exact ⟨b,c,by rw [hv,hf],ho,hc1,hc2,hb1,hb2⟩
theorem Q1W.setNum (h:Q1W w base v vs rows) {i g n c:Nat} {r:List Int} (hv:vs[i]? =some (.slice (some ⟨g,0,none⟩) n c)) (hr:rows[i]? =some r) (j:Nat) {z:Int} (hz:U64 z):
  Q1W (w.setCell ⟨g,j,none⟩ (.int .u64 z)) base v vs (rows.set i (r.set j z)):=by
 have hg:=Q0F w g j (.int .u64 z)
 have hi:=h.row i _ _ hv hr
 refine ⟨?_,by simpa using h.len,fun k x s hx hs=> ?_,h.apart⟩
 ·rw [List.length_set]
  refine h.outer.kept hg ?_
  exact .inr (Q0W hi.1 h.outer (by decide) rfl)
 ·by_cases hk:k=i
  ·subst hk
   obtain rfl:=Option.some.inj (hv.symm.trans hx)
   rw [List.getElem?_set_self (by exact (List.getElem?_eq_some_iff.1 hr).1)] at hs
   obtain rfl:=Option.some.inj hs
   exact hi.set_ j hz
  ·rw [List.getElem?_set_ne (Ne.symm hk)] at hs
   refine (h.row k x s hx hs).kept hg (.inr fun hb=>hk ?_)
   exact h.apart k i x _ g hx hv hb rfl
end
theorem Y2n :(Tryz.prog.info? 64).map (fun i=>(i.zero,i.size,i.bytes))=some (some (.slice none 0 0),1,24):=by kernel_rfl
theorem Z0x {ops:Array Oper} {rest:List Oper} {o:Oper} {a:Act} {Q:Exit->Act->World->Prop} {w:World} (hgd:o.guard=none) (s x:Operand)
  (ho:o.op= .call {callee:= .builtin .append,args:= #[s,x],argTypes:= #[86,86]})
  (base:Nat) (v:Value) (vs:List Value) (rows:List (List Int)) (y:Value) (r:List Int) (g c:Nat) (hs:a.eval s=v) (hown:Q1W w base v vs rows) (hx:a.eval x= .slice (some ⟨g,0,none⟩) 1 c)
  (hc:w.cell? ⟨g,0,none⟩=some y) (hy:Q0c w base y r) (hfar: ∀(k:Nat) (z:Value) (b:Nat),vs[k]? =some z->z.ownBlock=some b->y.ownBlock≠some b) (hl:rows.length+1<=5864062014805) (hb:base<=w.heap.size)
  (h: ∀v' w',Q1W w' base v' (vs++ [y]) (rows++ [r])->Below base w w'->wpList Tryz.prog ops Q rest (a.put o.dst v') w'):wpList Tryz.prog ops Q (o::rest) a w:=by
 obtain ⟨i0,hi,hz0,hz1,hz2⟩:=info_parts Y2n
 refine wpList_append_own w hgd s x 86 ho base 64 i0 (.slice none 0 0) 1 24 Tryz.underlying86 hi hz0 hz1 hz2 rfl (by decide) v rows.length vs hs hown.outer ⟨g,0,none⟩ 1 c [y] hx rfl ?_ ?_ ?_ ?_ hb ?_
 ·intro j u hu
  match j,hu with
  |0,hu=>
   simp at hu
   subst hu
   rw [Q0N];exact hc
 ·intro u hu
  simp at hu
  subst hu
  obtain ⟨A,cap,rfl,_,_⟩:=Q0k hy.1
  rfl
 ·unfold maxLen;omega
 ·omega
 ·intro v' w' h1 h2 _
  have kept: ∀(z:Value) (q:List Int),Q0c w base z q->Q0c w' base z q:=fun z q hz=>hz.kept h2 (by
   cases hzb:z.ownBlock with
   |none=>exact .inl rfl
   |some b=>exact .inr fun hvb=>Q0W hz.1 hown.outer (by decide) hzb hvb.symm)
  refine h v' w' ⟨?_,by simpa using hl,fun k z q hz hq=> ?_,fun k l z z' b hz hz' hzb hzb'=> ?_⟩ ((Below.refl _ _).grown h2 hb (fun k hk=>(hown.outer.lt k hk).1))
  ·have e:(rows++ [r]).length=rows.length+1:=by simp
   rw [e];exact h1
  ·have hvl:=hown.vlen
   rcases Nat.lt_or_ge k vs.length with hk|hk
   ·rw [List.getElem?_append_left hk] at hz
    rw [List.getElem?_append_left (by omega)] at hq
    exact kept z q (hown.row k z q hz hq)
   ·rw [List.getElem?_append_right hk] at hz
    rw [List.getElem?_append_right (by omega),<-hvl] at hq
    have h0:k - vs.length=0:=by
     have:=(List.getElem?_eq_some_iff.1 hz).1
     simpa using this
    rw [h0] at hz hq
    simp at hz hq
    subst hz hq
    exact kept _ _ hy
  ·have at_: ∀ {k:Nat} {z:Value},(vs++ [y])[k]? =some z->vs[k]? =some z∨k=vs.length/\z=y:=fun {k z} hz=>by
    rcases Nat.lt_or_ge k vs.length with hk|hk
    ·rw [List.getElem?_append_left hk] at hz;exact .inl hz
    ·rw [List.getElem?_append_right hk] at hz
     have h0:k - vs.length=0:=by
      have:=(List.getElem?_eq_some_iff.1 hz).1
      simpa using this
     rw [h0] at hz
     simp at hz
     exact .inr ⟨by omega,hz.symm⟩
   rcases at_ hz with h3|⟨h3,rfl⟩
   ·rcases at_ hz' with h4|⟨h4,rfl⟩
    ·exact hown.apart k l z z' b h3 h4 hzb hzb'
    ·exact absurd hzb' (hfar k z b h3 hzb)
   ·rcases at_ hz' with h4|⟨h4,rfl⟩
    ·exact absurd hzb (hfar l z' b h4 hzb')
    ·omega
theorem Q4a {ops:Array Oper} {rest:List Oper} {o:Oper} {a:Act} {Q:Exit->Act->World->Prop} {w:World} (hgd:o.guard=none) (l c:Operand)
  (ho:o.op=Op.makeSlice 86 l c) (base:Nat) (L:Int) (m:Nat) (hl:a.eval l= .int .i64 L) (hc:a.eval c= .int .i64 L) (hL:L=(m:Int)) (hm:m<=5864062014805) (hb:base<=w.heap.size)
  (h: ∀w',Q1W w' base (.slice (some ⟨w.heap.size,0,none⟩) m m) (List.replicate m (.slice none 0 0)) (List.replicate m [])->Below base w w'->wpList Tryz.prog ops Q rest (a.put o.dst (.slice (some ⟨w.heap.size,0,none⟩) m m)) w'):wpList Tryz.prog ops Q (o::rest) a w:=by
 obtain ⟨i0,hi,hz0,hz1,hz2⟩:=info_parts Y2n
 refine wpList_make_full w hgd l c 86 ho base 64 i0 (.slice none 0 0) 1 Tryz.underlying86 hi hz0 hz1 .i64 .i64 L L m hl hc hL hL (by rw [hz2];omega) (by unfold maxLen;omega) hb ?_
 intro w' h1 h2
 refine h w' ⟨?_,by simpa using hm,fun i x r hx hr=> ?_,fun i j x y b hx hy hxb=> ?_⟩ ((Below.refl _ _).grown h2 hb (fun k hk=>by cases hk))
 ·have e:(madeCells (Value.cells (.slice none 0 0)) (m * 1)).toList=List.replicate m (.slice none 0 0):=by
   apply List.ext_getElem
   ·simp [madeCells]
   ·intro j h1 h2
    simp [madeCells,Value.cells,Nat.mod_one]
  rw [List.length_replicate,<-e]
  exact h1
 ·rw [List.getElem?_replicate] at hx hr
  by_cases hi:i<m
  ·rw [if_pos hi] at hx hr
   obtain rfl:=Option.some.inj hx
   obtain rfl:=Option.some.inj hr
   exact Q0c.nil _ _
  ·rw [if_neg hi] at hx
   simp at hx
 ·rw [List.getElem?_replicate] at hx
  split at hx
  ·obtain rfl:=Option.some.inj hx
   simp [Value.ownBlock] at hxb
  ·simp at hx
end Go.Proofs.YtploomncapiloaaGreatDoor
namespace Go.Proofs.YtploomncapiloaaGreatDoor
open Go.RowKit Go.Sort Go.PlainAid Croft
theorem Q6V (h E:Int) (w:World) (hh0:0<=h) (hh1:h<=9223372036854775807) (h0:0<=E) (h1:E<=1000) (htab:Lib.TabIs Tryz.prog w "internal/strconv.uint64pow10" .u64 Lib.pow10Tab):
  Calls Tryz.prog 64 #[.int .i64 h,.int .i64 E] w fun e w'=>e= .returned (.string (bs (Q2G [h] E)))/\Below w.heap.size w w':=by
 have hwz:IntKind.u64.wrap h=h:=u64_nonneg hh0 (by omega)
 have BA:=Qh ((Below.refl w.heap.size w).alloc (Nat.le_refl _) (.cells #[.int .u64 h] 67))
 have KN:=Qh (Q9Q w [h] (by intro z hz;simp only [List.mem_singleton] at hz;subst hz;exact ⟨by omega,by omega⟩) (by simp))
 have CT:=Qh (Q6U _ [h] E _ KN.out (by simp) h0 h1 (Q0M htab BA.out))
 clear htab
 go_enter Tryz.func64,Tryz.ntmps64
 go_wp2_with fail
 refine CT.out.mono ?_
 rintro e w' ⟨rfl,hb⟩
 have B2:=Qh (Q0b BA.out hb BA.out.size)
 clear hb
 try dsimp only
 go_wp2_with fail
 go_ret
 exact ⟨rfl,B2.out⟩
theorem Q5c {w w':World} (h:Below w.heap.size w w') (b:Nat):w.grownBy w' (some b):=⟨h.os,h.tape,h.output,h.size,fun k hk _=>h.block k hk⟩
theorem Y2o (db:Nat) (tx:List UInt8) (kp va:Value) (ws:List (List UInt8)) (w:World) (hd:Box w db 32 [.string (bs tx),kp]) (h1:Q1g w va ws) (htx:tx.length<=2048) (hws:(Q1A ws).length<=1000000) (htab:Lib.TabIs Tryz.prog w "internal/strconv.uint64pow10" .u64 Lib.pow10Tab):
  Calls Tryz.prog 27 #[.pointer (some ⟨db,0,none⟩),va] w fun e w'=>e= .returned (.string (bs (Q3g tx ws).1))/\Box w' db 32 [.string (bs (Q3g tx ws).2),kp]/\w.grownBy w' (some db):=by
 have BX:=Qh hd
 have KS:=Qh h1
 have HT:=Qh htab
 obtain ⟨A1,c1,rfl,hc1,hm1,hl1,hr1⟩:=h1
 suffices hgoal: ∀Post:Ending->World->Prop,(∀w',Box w' db 32 [.string (bs (Q3g tx ws).2),kp]->w.grownBy w' (some db)->Post (.returned (.string (bs (Q3g tx ws).1))) w')->Calls Tryz.prog 27 #[.pointer (some ⟨db,0,none⟩),.slice A1 ws.length c1] w Post from hgoal _ fun w' h1 h2=>⟨rfl,h1,h2⟩
 intro Post hpo
 have HP:=Qh hpo
 have CF3:=Qh (Q2H 3 w (by omega) (by omega) htab)
 have CJ:=Qh (Z6s _ ws w KS.out (by omega))
 clear hm1 hpo hr1 htab hd
 by_cases hw:ws= []
 ·subst hw
  go_enter Tryz.func27,Tryz.ntmps27
  go_wp2_with fail
  refine CF3.out.mono ?_
  rintro e w' ⟨rfl,hb⟩
  have hp:=HP.out w' (BX.out.below hb) (Q5c hb db)
  have hm:(Q3g tx []).1=Q2h 3:=by unfold Q3g;rw [if_pos rfl]
  rw [hm] at hp
  have HPP:=Qh hp
  clear hb hp hm
  try dsimp only
  go_wp2_with fail
  exact HPP.out
 ·have hpos:0<ws.length:=List.length_pos_iff.2 hw
  have hbl:((ws.length:Int)==0)=false:=by rw [beq_eq_false_iff_ne];omega
  obtain ⟨sj,hsj⟩: ∃sj,sj=bs (Q1A ws):=⟨_,rfl⟩
  obtain ⟨st,hst⟩: ∃st,st=bs tx:=⟨_,rfl⟩
  have hzj:sj.size=(Q1A ws).length:=by rw [hsj,Q0q]
  have hzt:st.size=tx.length:=by rw [hst,Q0q]
  obtain ⟨s2,hs2⟩: ∃s2,s2=bs (Q1A ws++ [10]):=⟨_,rfl⟩
  have hz2:s2.size=(Q1A ws).length+1:=by rw [hs2,Q0q,List.length_append];rfl
  have t1: ∀W,(Op.stringOp .add sj ⟨#[10]⟩).run Tryz.prog W= .ok (.string s2) W:=fun W=>by
   rw [hs2,hsj]
   exact (run_string_add_sum W (bs (Q1A ws)) (bs [10]) (by rw [Q0q,Q0q];simp;omega)).trans (by rw [Q0p])
  have HC3:=Qh (show st++s2=bs (tx++(Q1A ws++ [10])) by rw [hst,hs2,Q0p])
  obtain ⟨s3,hs3⟩: ∃s3,s3=st++s2:=⟨_,rfl⟩
  have t2: ∀W,(Op.stringOp .add st s2).run Tryz.prog W= .ok (.string s3) W:=fun W=>by
   rw [hs3];exact run_string_add_sum W st s2 (by omega)
  rw [<-hs3] at HC3
  rw [<-hsj] at CJ
  rw [<-hst] at BX
  have HST:=Qh hst
  have HW:=Qh hw
  clear hsj hst hs2 hs3 hw
  by_cases hbig:2048<tx.length+((Q1A ws).length+1)
  ·have HM:=Qh (show Q3g tx ws=(Q2h 2,tx) by unfold Q3g;rw [if_neg HW.out,if_pos hbig])
   have hb48:(2048:Int)<(st.size:Int)+(s2.size:Int):=by omega
   go_enter Tryz.func27,Tryz.ntmps27
   go_wp2_with fail
   refine CJ.out.mono ?_
   rintro e W2 ⟨rfl,hb⟩
   have BX2:=Qh (BX.out.below hb)
   have HB:=Qh hb
   have CF2:=Qh (Q2H 2 W2 (by omega) (by omega) (Q0M HT.out hb))
   have hc0:=BX2.out.cell (i:=0) rfl
   clear hb
   try dsimp only
   go_wp2_with fail
   refine CF2.out.mono ?_
   rintro e W3 ⟨rfl,hb⟩
   have hp:=HP.out W3 (by rw [HM.out];have h:=BX2.out.below hb;rw [HST.out] at h;exact h) (Q5c (HB.out.trans (hb.mono HB.out.size)) db)
   rw [HM.out] at hp
   have HPP:=Qh hp
   clear hb hp hc0
   try dsimp only
   go_wp2_with fail
   exact HPP.out
  ·have HM:=Qh (show Q3g tx ws=(okT,tx++(Q1A ws++ [10])) by unfold Q3g;rw [if_neg HW.out,if_neg hbig])
   have hb48:(st.size:Int)+(s2.size:Int)<=2048:=by omega
   go_enter Tryz.func27,Tryz.ntmps27
   go_wp2_with fail
   refine CJ.out.mono ?_
   rintro e W2 ⟨rfl,hb⟩
   have BX2:=Qh (BX.out.below hb)
   have HB:=Qh hb
   have hc0:=BX2.out.cell (i:=0) rfl
   have hf0:=BX2.out.frozen 0
   have hp:=HP.out (W2.setCell ⟨db,0,none⟩ (.string s3)) (by rw [HM.out,<-HC3.out];exact BX2.out.set 0 (.string s3)) ((Q5c hb db).trans (Q0F W2 db 0 (.string s3)))
   rw [HM.out] at hp
   have HPP:=Qh hp
   clear hb hp
   try dsimp only
   go_wp2_with fail
   exact HPP.out
end Go.Proofs.YtploomncapiloaaGreatDoor
namespace Go.Proofs.YtploomncapiloaaGreatDoor
open Go.RowKit Croft
theorem Q1W.pushed {w w':World} {base g n c i:Nat} {x x':Value} {r ds:List Int} {vs:List Value} {rows:List (List Int)} (h:Q1W w base (.slice (some ⟨g,0,none⟩) n c) vs rows) (hv:vs[i]? =some x) (hr:rows[i]? =some r)
  (h1:Q0c w' base x' (r++ds)) (h2:w.grownBy w' x.ownBlock) (h3:x'.ownBlock=x.ownBlock∨x'.ownBlock=some w.heap.size):
  w'.cell? ⟨g,i,none⟩=some x/\w'.frozen? ⟨g,i,none⟩=false/\Q1W (w'.setCell ⟨g,i,none⟩ x') base (.slice (some ⟨g,0,none⟩) n c) (vs.set i x') (rows.set i (r++ds)):=by
 have hn:n=rows.length:=by
  rcases h.outer.2 with ⟨hv,_⟩|⟨g',cap,cur,hv,_⟩
  ·simp at hv
  ·injection hv
 subst hn
 have hvl:=h.vlen
 have hil:=(List.getElem?_eq_some_iff.1 hv).1
 have hneq:x.ownBlock≠some g:=fun hx=>Q0W (h.row i x r hv hr).1 h.outer (by decide) hx rfl
 have hout:=h.outer.kept h2 (.inr (fun e=>hneq e.symm))
 have hoth: ∀(k:Nat) (y:Value) (s:List Int),k≠i->vs[k]? =some y->rows[k]? =some s->Q0c w' base y s:=fun k y s hk hy hs=>
  (h.row k y s hy hs).kept h2 (by
   cases hyb:y.ownBlock with
   |none=>exact .inl rfl
   |some b=>exact .inr fun e=>hk (h.apart k i y x b hy hv hyb e.symm))
 have hg:=Q0F w' g i x'
 refine ⟨by rw [hout.cellAt i (by omega),hv],hout.frozenAt i, ?_⟩
 refine ⟨by rw [List.length_set];exact (hout.stored i x').1,by simpa using h.len,fun k y s hy hs=> ?_,fun k l y z b hy hz hyb hzb=> ?_⟩
 ·by_cases hk:k=i
  ·subst hk
   rw [List.getElem?_set_self hil] at hy
   rw [List.getElem?_set_self (by omega)] at hs
   obtain rfl:=Option.some.inj hy
   obtain rfl:=Option.some.inj hs
   exact h1.kept hg (.inr fun hb=>Q0W h1.1 hout (by decide) hb rfl)
  ·rw [List.getElem?_set_ne (Ne.symm hk)] at hy hs
   have ho:=hoth k y s hk hy hs
   exact ho.kept hg (.inr fun hb=>Q0W ho.1 hout (by decide) hb rfl)
 ·have far: ∀(k:Nat) (y:Value) (b:Nat),k≠i->vs[k]? =some y->y.ownBlock=some b->x'.ownBlock≠some b:=fun k y b hk hy hyb hxb=>by
   have hkl:=(List.getElem?_eq_some_iff.1 hy).1
   rcases h3 with h3|h3
   ·rw [h3] at hxb
    exact hk (h.apart k i y x b hy hv hyb hxb)
   ·rw [h3] at hxb
    have:=((h.row k y _ hy (List.getElem?_eq_getElem (by omega))).1.lt b hyb).2
    injection hxb with hxb
    omega
  by_cases hk:k=i
  ·subst hk
   rw [List.getElem?_set_self hil] at hy
   obtain rfl:=Option.some.inj hy
   by_cases hl:l=k
   ·exact hl.symm
   ·rw [List.getElem?_set_ne (Ne.symm hl)] at hz
    exact absurd hyb (far l z b hl hz hzb)
  ·rw [List.getElem?_set_ne (Ne.symm hk)] at hy
   by_cases hl:l=i
   ·subst hl
    rw [List.getElem?_set_self hil] at hz
    obtain rfl:=Option.some.inj hz
    exact absurd hzb (far k y b hk hy hyb)
   ·rw [List.getElem?_set_ne (Ne.symm hl)] at hz
    exact h.apart k l y z b hy hz hyb hzb
theorem Q9y {ops:Array Oper} {rest:List Oper} {o:Oper} {a:Act} {Q:Exit->Act->World->Prop} {w:World} (hgd:o.guard=none) (s x:Operand)
  (ho:o.op= .call {callee:= .builtin .append,args:= #[s,x],argTypes:= #[64,64]})
  (base g n c i:Nat) (v:Value) (vs:List Value) (rows:List (List Int)) (r:List Int) (z:Int) (gg cc:Nat) (hs:a.eval s=v) (hgr:Q1W w base (.slice (some ⟨g,0,none⟩) n c) vs rows) (hv:vs[i]? =some v) (hr:rows[i]? =some r) (hx:a.eval x= .slice (some ⟨gg,0,none⟩) 1 cc)
  (hc:w.cell? ⟨gg,0,none⟩=some (.int .u64 z)) (hz:U64 z) (hl:r.length+1<=17592186043904) (hb:base<=w.heap.size)
  (h: ∀A cap w',w'.cell? ⟨g,i,none⟩=some v->w'.frozen? ⟨g,i,none⟩=false->Q1W (w'.setCell ⟨g,i,none⟩ (.slice A (r.length+1) cap)) base (.slice (some ⟨g,0,none⟩) n c) (vs.set i (.slice A (r.length+1) cap)) (rows.set i (r++ [z]))->Below base w w'->w.grownBy w' v.ownBlock->((Value.slice A (r.length+1) cap).ownBlock=v.ownBlock∨(Value.slice A (r.length+1) cap).ownBlock=some w.heap.size)->wpList Tryz.prog ops Q rest (a.put o.dst (.slice A (r.length+1) cap)) w'):wpList Tryz.prog ops Q (o::rest) a w:=by
 obtain ⟨i0,hi,hz0,hz1,hz2⟩:=info_parts Z2z
 have hown:=hgr.row i v r hv hr
 refine wpList_append_own_at (w:=w) hgd s x 64 ho base 67 i0 (.int .u64 0) 1 8 Tryz.underlying64 hi hz0 hz1 hz2 rfl (by decide) v r.length (Q2o r) hs hown.1 ⟨gg,0,none⟩ 1 cc [.int .u64 z] hx rfl ?_ ?_ ?_ ?_ hb ?_
 ·intro j u hu
  match j,hu with
  |0,hu=>
   simp at hu
   subst hu
   rw [Q0N];exact hc
 ·intro u hu
  simp at hu
  subst hu;rfl
 ·unfold maxLen;omega
 ·omega
 ·intro v' w' h1 h2 _ h4
  obtain ⟨A,cap,rfl,_,_⟩:=Q0k h1
  have hown':Q0c w' base (.slice A (r.length+1) cap) (r++ [z]):=by
   refine ⟨?_,by simpa using hl,fun y hy=> ?_⟩
   ·have e:(r++ [z]).length=r.length+1:=by simp
    have e2:Q2o (r++ [z])=Q2o r++ [.int .u64 z]:=by simp [Q2o]
    rw [e,e2];exact h1
   ·rcases List.mem_append.1 hy with h5|h5
    ·exact hown.2.2 y h5
    ·simp at h5;subst h5;exact hz
  obtain ⟨k1,k2,k3⟩:=hgr.pushed hv hr hown' h2 h4
  exact h A cap w' k1 k2 k3 ((Below.refl _ _).grown h2 hb (fun k hk=>(hown.1.lt k hk).1)) h2 h4
theorem Z1G {ops:Array Oper} {o:Oper} {a:Act} {K:Act->World->Prop} {Q:Exit->Act->World->Prop} {E:Prop} {w:World} (hgd:o.guard=none) (s x:Operand)
  (ho:o.op= .call {callee:= .builtin .append,args:= #[s,x],argTypes:= #[64,64]})
  (base g n c i:Nat) (v:Value) (vs:List Value) (rows:List (List Int)) (r:List Int) (z:Int) (gg cc:Nat) (hs:a.eval s=v) (hgr:Q1W w base (.slice (some ⟨g,0,none⟩) n c) vs rows) (hv:vs[i]? =some v) (hr:rows[i]? =some r) (hx:a.eval x= .slice (some ⟨gg,0,none⟩) 1 cc)
  (hc:w.cell? ⟨gg,0,none⟩=some (.int .u64 z)) (hz:U64 z) (hl:r.length+1<=17592186043904) (hb:base<=w.heap.size)
  (h: ∀b cap w',w'.cell? ⟨g,i,none⟩=some v->w'.frozen? ⟨g,i,none⟩=false->Q1W (w'.setCell ⟨g,i,none⟩ (.slice (some ⟨b,0,none⟩) (r.length+1) cap)) base (.slice (some ⟨g,0,none⟩) n c) (vs.set i (.slice (some ⟨b,0,none⟩) (r.length+1) cap)) (rows.set i (r++ [z]))->Below base w w'->w.grownBy w' v.ownBlock->K (a.put o.dst (.slice (some ⟨b,0,none⟩) (r.length+1) cap)) w'):if Region.wanted o (yielded ops a.tmps)=true then Oper.wp Tryz.prog o a w K Q else E:=by
 obtain ⟨i0,hi,hz0,hz1,hz2⟩:=info_parts Z2z
 have hown:=hgr.row i v r hv hr
 refine step_append_lies w hgd s x 64 ho base 67 i0 (.int .u64 0) 1 8 Tryz.underlying64 hi hz0 hz1 hz2 rfl (by decide) v r.length (Q2o r) hs hown.1 ⟨gg,0,none⟩ 1 cc [.int .u64 z] hx rfl ?_ ?_ (by omega) ?_ ?_ hb _ rfl ?_
 ·intro j u hu
  match j,hu with
  |0,hu=>
   simp at hu
   subst hu
   rw [Q0N];exact hc
 ·intro u hu
  simp at hu
  subst hu;rfl
 ·unfold maxLen;omega
 ·omega
 ·intro b cap w' h1 h2 h4 _
  have hown':Q0c w' base (.slice (some ⟨b,0,none⟩) (r.length+1) cap) (r++ [z]):=by
   refine ⟨?_,by simpa using hl,fun y hy=> ?_⟩
   ·have e:(r++ [z]).length=r.length+1:=by simp
    have e2:Q2o (r++ [z])=Q2o r++ [.int .u64 z]:=by simp [Q2o]
    rw [e,e2];exact h1
   ·rcases List.mem_append.1 hy with h5|h5
    ·exact hown.2.2 y h5
    ·simp at h5;subst h5;exact hz
  obtain ⟨k1,k2,k3⟩:=hgr.pushed hv hr hown' h2 (by
   rcases h4 with h4|h4
   ·left;rw [h4];rfl
   ·right;rw [h4];rfl)
  exact h b cap w' k1 k2 k3 ((Below.refl _ _).grown h2 hb (fun k hk=>(hown.1.lt k hk).1)) h2
theorem Q2l {w w':World} {b1 b2:Nat} {e1 e2:TypeId} {s1 s2 n1 n2:Nat} {v1 v2:Value} {x1 x2:List Value} (h1:w.ownsRow b1 e1 s1 v1 n1 x1) (h2:w.ownsRow b2 e2 s2 v2 n2 x2) (hne:e1≠e2) (hg:w.grownBy w' v2.ownBlock):w'.ownsRow b1 e1 s1 v1 n1 x1:=
 h1.kept hg (by
  cases hb:v1.ownBlock with
  |none=>exact .inl rfl
  |some b=>exact .inr fun e=>Q0W h1 h2 hne hb e.symm)
theorem Q1W.apart_kept {w w':World} {base b2:Nat} {e2:TypeId} {s2 n2:Nat} {v v2:Value} {x2:List Value} {vs:List Value} {rows:List (List Int)} (h:Q1W w base v vs rows) (h2:w.ownsRow b2 e2 s2 v2 n2 x2) (hne1:64≠e2) (hne2:67≠e2) (hg:w.grownBy w' v2.ownBlock):Q1W w' base v vs rows:=
 ⟨Q2l h.outer h2 hne1 hg,h.len,fun i x r hx hr=>⟨Q2l (h.row i x r hx hr).1 h2 hne2 hg,(h.row i x r hx hr).2⟩,h.apart⟩
theorem Q1W.less_below {w a b:World} {base B:Nat} {v:Value} {vs:List Value} {rows:List (List Int)} (h:Q1W a base v vs rows) (_hab:Below B w a) (hb:Below a.heap.size a b) (hbase:B<=base:=by omega):Q1W b B v vs rows:=by
 have h2:=h.below hb
 have less: ∀ {e:TypeId} {s n:Nat} {v:Value} {xs:List Value},b.ownsRow base e s v n xs->b.ownsRow B e s v n xs:=fun {e s n v xs} h=>by
  refine ⟨h.1, ?_⟩
  rcases h.2 with h1|⟨g,cap,cur,hv,hg,r⟩
  ·exact .inl h1
  ·exact .inr ⟨g,cap,cur,hv,by omega,r⟩
 exact ⟨less h2.outer,h2.len,fun i x r hx hr=>(h2.row i x r hx hr).less hbase,h2.apart⟩
end Go.Proofs.YtploomncapiloaaGreatDoor
