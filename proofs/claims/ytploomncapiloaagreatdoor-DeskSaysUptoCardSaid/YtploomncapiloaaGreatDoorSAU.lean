/- Parts of the proof, put together by a program: RefK. No condition. -/
import Derived.Test.YtploomncapiloaaGreatDoorSAT
set_option maxRecDepth 100000
set_option maxHeartbeats 8000000
namespace Go.Proofs.YtploomncapiloaaGreatDoor
open Go.RowKit Go.Maps Croft
structure Q1k (w:World) (base kb mb n t last sz:Nat) (S:Int->Option (List Int)) (V:Int->Value):Prop where
 cell:w.heap[kb]? =some (.cells #[.int .i64 n,.int .i64 t,.int .i64 last,.map (some mb)] 119 (0,0))
 store:Q0S w base mb sz S V
 le:base<=kb
 len: ∀z zs,S z=some zs->zs.length=n/\1<=z/\z<=last
 sz8:sz<=8
theorem Q1k.lt {w:World} {base kb mb n t last sz:Nat} {S:Int->Option (List Int)} {V:Int->Value} (h:Q1k w base kb mb n t last sz S V):kb<w.heap.size:=(Array.getElem?_eq_some_iff.1 h.cell).1
theorem Q1k.below {w w':World} {base kb mb n t last sz:Nat} {S:Int->Option (List Int)} {V:Int->Value} (h:Q1k w base kb mb n t last sz S V) (hb:Below w.heap.size w w'):Q1k w' base kb mb n t last sz S V:=
 ⟨(hb.block kb h.lt).trans h.cell,h.store.below hb,h.le,h.len,h.sz8⟩
theorem Q1k.drewN {w:World} {base kb mb n t last sz:Nat} {S:Int->Option (List Int)} {V:Int->Value} (h:Q1k w base kb mb n t last sz S V) (m:Nat):Q1k (w.drewN m) base kb mb n t last sz S V:=h.below (below_drewN (Below.refl _ _) m)
theorem Q1k.cells {w:World} {base kb mb n t last sz:Nat} {S:Int->Option (List Int)} {V:Int->Value} (h:Q1k w base kb mb n t last sz S V):
  w.cell? ⟨kb,0,none⟩=some (.int .i64 n)/\w.cell? ⟨kb,1,none⟩=some (.int .i64 t)/\w.cell? ⟨kb,2,none⟩=some (.int .i64 last)/\w.cell? ⟨kb,3,none⟩=some (.map (some mb))/\ ∀j,w.frozen? ⟨kb,j,none⟩=false:=by
 have hc:=h.cell
 refine ⟨?_, ?_, ?_, ?_,fun j=> ?_⟩
 ·simp [World.cell?,hc]
 ·simp [World.cell?,hc]
 ·simp [World.cell?,hc]
 ·simp [World.cell?,hc]
 ·simp [World.frozen?,hc]
theorem Z7F (v:Value) (w:World) {base kb mb n t last:Nat} {S:Int->Option (List Int)} {V:Int->Value} (hk:Q1k w base kb mb n t last 8 S V):
  Calls Tryz.prog 132 #[.pointer (some ⟨kb,0,none⟩),v] w fun e w'=>e= .returned (.tuple #[.int .i64 0,.int .i64 2])/\w=w':=by
 have KK:=Qh hk
 obtain ⟨_,_,_,hm,_⟩:=hk.cells
 clear hk
 go_enter Tryz.func132,Tryz.ntmps132
 go_wp2_with (at_len;refine Q2b rfl _ rfl rfl KK.out.store ?_)
 go_ret2
 exact ⟨rfl,rfl⟩
theorem Z0R {w:World} {base kb mb n t last sz:Nat} {S:Int->Option (List Int)} {V:Int->Value} (h:Q1k w base kb mb n t last sz S V) (x:Int):(w.setCell ⟨kb,2,none⟩ (.int .i64 x)).heap[kb]? =some (.cells #[.int .i64 n,.int .i64 t,.int .i64 x,.map (some mb)] 119 (0,0)):=by
 have hc:=h.cell
 simp [World.setCell,hc,Array.getElem?_modify]
theorem Q1k.kb_type {w:World} {base kb mb n t last sz:Nat} {S:Int->Option (List Int)} {V:Int->Value} (h:Q1k w base kb mb n t last sz S V) (cur:Array Value) (fr:Nat×Nat):w.heap[kb]? ≠some (.cells cur 67 fr):=by
 rw [h.cell]
 intro e
 injection e with e
 injection e with _ e _
 exact absurd e (by decide)
theorem Q1k.mb_type {w:World} {base kb mb n t last sz:Nat} {S:Int->Option (List Int)} {V:Int->Value} (h:Q1k w base kb mb n t last sz S V) (cur:Array Value) (e:TypeId) (fr:Nat×Nat):w.heap[mb]? ≠some (.cells cur e fr):=by
 obtain ⟨D,⟨es,clock,hb,_⟩,_⟩:=h.store.map
 rw [hb]
 intro e
 cases e
theorem Q1k.ne {w:World} {base kb mb n t last sz:Nat} {S:Int->Option (List Int)} {V:Int->Value} (h:Q1k w base kb mb n t last sz S V):kb≠mb:=fun e=>by
 have:=h.mb_type
 subst e
 exact this _ _ _ h.cell
theorem Q1k.bump {w:World} {base kb mb n t last sz:Nat} {S:Int->Option (List Int)} {V:Int->Value} (h:Q1k w base kb mb n t last sz S V):Q1k (w.setCell ⟨kb,2,none⟩ (.int .i64 ((last:Int)+1))) base kb mb n t (last+1) sz S V:=by
 refine ⟨Z0R h _,⟨?_,fun z zs hz=>(h.store.rows z zs hz).grownBy (grownBy_setCell' w kb 2 _) h.kb_type,h.store.le⟩,h.le,fun z zs hz=> ?_,h.sz8⟩
 ·obtain ⟨D,h1,h2⟩:=h.store.map
  exact ⟨D,h1.kept (grownBy_setCell' w kb 2 _) (fun e=>h.ne (by injection e with e;exact e.symm)),h2⟩
 ·obtain ⟨h1,h2,h3⟩:=h.len z zs hz
  exact ⟨h1,h2,by omega⟩
theorem Q1k.turned {w w':World} {base kb mb n t last sz sz':Nat} {S S':Int->Option (List Int)} {V V':Int->Value} (h:Q1k w base kb mb n t last sz S V) (hs:Q0S w' base mb sz' S' V') (hg:w.grownBy w' (some mb)) (h8:sz'<=8)
  (hl: ∀z zs,S' z=some zs->zs.length=n/\1<=z/\z<=last):Q1k w' base kb mb n t last sz' S' V':=
 ⟨(hg.block kb h.lt (fun e=>h.ne (by injection e))).trans h.cell,hs,h.le,hl,h8⟩
theorem Y2T (v:Value) (zs:List Int) (w:World) {base kb mb n t last sz:Nat} {S:Int->Option (List Int)} {V:Int->Value} (hk:Q1k w base kb mb n t last sz S V) (hsz:sz<8) (hlast:last<1000000) (hv:Q0c w base v zs) (hl:zs.length=n):
  Calls Tryz.prog 132 #[.pointer (some ⟨kb,0,none⟩),v] w fun e w'=>e= .returned (.tuple #[.int .i64 ((last+1:Nat):Int),.int .i64 0])/\Q1k w' base kb mb n t (last+1) (sz+1) (upd S (last+1:Nat) (some zs)) (Y2K V (last+1:Nat) v)/\Q1F kb mb w w':=by
 have KK:=Qh hk
 have KB:=Qh hk.bump
 have KV:=Qh (hv.grownBy (grownBy_setCell' w kb 2 (.int .i64 ((last:Int)+1))) hk.kb_type)
 have BB:=Qh ((Q1F.refl kb mb w).grown (grownBy_setCell' w kb 2 (.int .i64 ((last:Int)+1))) (.inl rfl))
 have HS:=Qh (show S ((last:Int)+1)=none from by
  cases h:S ((last:Int)+1) with
  |none=>rfl
  |some zs=>have:=(hk.len _ _ h).2.2;omega)
 obtain ⟨_,_,hc2,hm,hfr⟩:=hk.cells
 have hf2:=hfr 2
 have hne:decide ((sz:Int)>=8)=false:=by simp;omega
 clear hk hfr hv
 suffices hgoal: ∀Post:Ending->World->Prop,(∀w',Q1k w' base kb mb n t (last+1) (sz+1) (upd S (last+1:Nat) (some zs)) (Y2K V (last+1:Nat) v)->Q1F kb mb w w'->Post (.returned (.tuple #[.int .i64 ((last+1:Nat):Int),.int .i64 0])) w')->Calls Tryz.prog 132 #[.pointer (some ⟨kb,0,none⟩),v] w Post from hgoal _ fun w' h1 h2=>⟨rfl,h1,h2⟩
 intro Post hpo
 have HP:=Qh hpo
 clear hpo
 go_enter Tryz.func132,Tryz.ntmps132
 go_wp2_with (at_len;refine Q2b rfl _ rfl rfl KK.out.store ?_)
 obtain ⟨W1,hW1⟩: ∃W1,W1=w.setCell ⟨kb,2,none⟩ (.int .i64 ((last:Int)+1)):=⟨_,rfl⟩
 rw [<-hW1] at KB KV BB⊢
 clear hW1 hc2 hm hf2 KK
 obtain ⟨_,_,hc2,hm,_⟩:=KB.out.cells
 refine Q0D 9 (by kernel_rfl) (by kernel_rfl) ?_
 simp only [List.take_succ_cons,List.take_zero,List.drop_succ_cons,List.drop_zero]
 repeat (go_big_quiet_step ((fail)))
 refine wpQuiet_nil ?_
 intro nq
 go_wp2_with (at_mapUpdate;refine Q6z rfl _ _ _ rfl rfl (KB.out.store.drewN nq) (by omega) ((last:Int)+1) (by unfold I64;omega) _ zs rfl rfl (KV.out.drewN nq) (sz+1) (by rw [HS.out];rfl) ?_)
 intro w2 hst hg2
 have K2:=Qh ((KB.out.drewN nq).turned hst hg2 (by omega) (fun z ys hz=>by
  unfold upd at hz
  by_cases he:z=(last:Int)+1
  ·rw [if_pos he] at hz
   injection hz with hz
   subst hz
   exact ⟨hl,by omega,by omega⟩
  ·rw [if_neg he] at hz
   exact KB.out.len z ys hz))
 have B2:=Qh ((BB.out.below (below_drewN (Below.refl _ _) nq)).grown hg2 (.inr rfl))
 obtain ⟨_,_,hd2,_,_⟩:=K2.out.cells
 clear hst hg2 hc2 hm
 go_wp2_with fail
 exact HP.out _ K2.out B2.out
def Q2m (w:World) (base kb mb n t last sz:Nat) (S:Int->Option (List Int)) (l:List Int) (e:Ending) (w':World):Prop:=
 if sz=8 then e= .returned (.tuple #[.int .i64 0,.int .i64 2])/\(∃V',Q1k w' base kb mb n t last sz S V')/\Q1F kb mb w w'
 else e= .returned (.tuple #[.int .i64 ((last+1:Nat):Int),.int .i64 0])/\(∃V',Q1k w' base kb mb n t (last+1) (sz+1) (upd S (last+1:Nat) (some l)) V')/\Q1F kb mb w w'
theorem Z0S (v:Value) (zs:List Int) (w:World) {base kb mb n t last sz:Nat} {S:Int->Option (List Int)} {V:Int->Value} (hk:Q1k w base kb mb n t last sz S V) (hlast:last<1000000) (hv:Q0c w base v zs) (hl:zs.length=n):
  Calls Tryz.prog 132 #[.pointer (some ⟨kb,0,none⟩),v] w fun e w'=>Q2m w base kb mb n t last sz S zs e w':=by
 by_cases h8:sz=8
 ·subst h8
  refine (Z7F v w hk).mono ?_
  rintro e w' ⟨rfl,rfl⟩
  unfold Q2m
  rw [if_pos rfl]
  exact ⟨rfl,⟨V,hk⟩,Q1F.refl _ _ _⟩
 ·refine (Y2T v zs w hk (by have:=hk.sz8;omega) hlast hv hl).mono ?_
  rintro e w' ⟨rfl,h1,h2⟩
  unfold Q2m
  rw [if_neg h8]
  exact ⟨rfl,⟨_,h1⟩,h2⟩
theorem Q2m.full {w w':World} {base kb mb n t last sz:Nat} {S:Int->Option (List Int)} {l:List Int} {e:Ending} (h:Q2m w base kb mb n t last sz S l e w') (h8:sz=8):e= .returned (.tuple #[.int .i64 0,.int .i64 2])/\(∃V',Q1k w' base kb mb n t last sz S V')/\Q1F kb mb w w':=by
 unfold Q2m at h
 rwa [if_pos h8] at h
theorem Q2m.new {w w':World} {base kb mb n t last sz:Nat} {S:Int->Option (List Int)} {l:List Int} {e:Ending} (h:Q2m w base kb mb n t last sz S l e w') (h8: ¬sz=8):e= .returned (.tuple #[.int .i64 ((last+1:Nat):Int),.int .i64 0])/\(∃V',Q1k w' base kb mb n t (last+1) (sz+1) (upd S (last+1:Nat) (some l)) V')/\Q1F kb mb w w':=by
 unfold Q2m at h
 rwa [if_neg h8] at h
theorem Y5a (n t:Nat) (w:World):
  Calls Tryz.prog 42 #[.int .i64 n,.int .i64 t] w fun e w'=> ∃kb mb V,e= .returned (.pointer (some ⟨kb,0,none⟩))/\Q1k w' w.heap.size kb mb n t 0 0 (fun _=>none) V/\Below w.heap.size w w':=by
 have hmm:= @run_makeMap Tryz.prog
 have BB:=Qh ((((Below.refl w.heap.size w).alloc (Nat.le_refl _) (.map #[] 0))).alloc (by simp) (.cells #[.int .i64 n,.int .i64 t,.int .i64 0,.map (some w.heap.size)] 119))
 have KK:=Qh (show Q1k ((w.alloc (.map #[] 0)).alloc (.cells #[.int .i64 n,.int .i64 t,.int .i64 0,.map (some w.heap.size)] 119)) w.heap.size (w.heap.size+1) w.heap.size n t 0 0 (fun _=>none) (fun _=> .slice none 0 0) from by
  refine ⟨?_,⟨⟨.map [],(World.ownsMap_made w _ _ _).alloc _,rfl,fun z=>rfl,fun z d h=>by simp at h⟩,fun z zs h=>by simp at h,Nat.le_refl _⟩,by omega,fun z zs h=>by simp at h,by omega⟩
  rw [<-size_alloc w (.map #[] 0)]
  exact (MapKept.heap_alloc _ _).1)
 go_enter Tryz.func42,Tryz.ntmps42
 go_wp2_with fail
 go_ret
 exact ⟨_,_,_,rfl,KK.out,BB.out⟩
theorem Q0S.lookOk2 {w:World} {base mb sz:Nat} {S:Int->Option (List Int)} {V:Int->Value} (h:Q0S w base mb sz S V) {z:Int} (hz:I64 z):
  (Instr.lookup 117 (.map (some mb)) (.int .i64 z) true).run Tryz.prog w= .ok (.tuple #[if (S z).isSome=true then V z else .slice none 0 0,.bool (S z).isSome]) w:=by
 obtain ⟨D,h1,_,h3,h4⟩:=h.map
 obtain ⟨v,ps,hrun,hv⟩:=h1.look_ok Y4g Tryz.underlying117 (Z2P w) (zd:= .held (.slice none 0 0)) (zp:= []) rfl (keyOf_i64 hz)
 rw [h3 z] at hrun
 have e2:v=if (S z).isSome=true then V z else .slice none 0 0:=by
  cases hs:(S z).isSome with
  |true=>
   rw [if_pos rfl]
   have e:Q6e v=some (.held (V z),ps):=hv.trans (by rw [h4 z _ hs])
   have:=congrArg (fun o=>o.map (·.1)) e
   simp only [Q6e,Option.map_some,Option.some.injEq,DataW.held.injEq] at this
   exact this
  |false=>
   rw [if_neg (by simp)]
   have e:Q6e v=some (.held (.slice none 0 0),ps):=hv.trans (by rw [atKey_of_not_has ((h3 z).trans hs)])
   have:=congrArg (fun o=>o.map (·.1)) e
   simp only [Q6e,Option.map_some,Option.some.injEq,DataW.held.injEq] at this
   exact this
 rw [hrun,e2]
theorem Q2T (va:Value) (hs:List Int) (w:World) {base kb mb n t last sz:Nat} {S:Int->Option (List Int)} {V:Int->Value} (hk:Q1k w base kb mb n t last sz S V) (h1:Q0y w va hs):
  Calls Tryz.prog 134 #[.pointer (some ⟨kb,0,none⟩),va] w fun e w'=>e= .returned (.bool (hs.all fun h=>(S h).isSome))/\ ∃d,w'=w.drewN d:=by
 have KK:=Qh hk
 have KA:=Qh h1
 obtain ⟨A1,c1,rfl,hc1,hm1,hl1,hu1,hr1⟩:=h1
 clear hk hm1
 have hu:=Qh hu1
 clear hu1 hr1
 suffices hgoal: ∀Post:Ending->World->Prop,(∀e w',(e= .returned (.bool (hs.all fun h=>(S h).isSome))/\ ∃d,w'=w.drewN d)->Post e w')->Calls Tryz.prog 134 #[.pointer (some ⟨kb,0,none⟩),.slice A1 hs.length c1] w Post from hgoal _ fun e w' h=>h
 intro Post hpo
 have HP:=Qh hpo
 clear hpo
 go_enter Tryz.func134,Tryz.ntmps134
 go_wp2_with fail
 go_loopw [5,6] (fun o i wr=> ∃k d:Nat,k<=hs.length/\i= .int .i64 k/\o= .bool ((hs.take k).all fun h=>(S h).isSome)/\wr=w.drewN d) (fun _ i _=>hs.length - (intOf i).toNat)
 case atStart=>exact ⟨0,0,Nat.zero_le _,rfl,by simp,rfl⟩
 case round=>
  obtain ⟨k,d,hk,rfl,rfl,hw⟩:=hrel
  have KK2:=Qh (show Q1k wr base kb mb n t last sz S V by rw [hw];exact KK.out.drewN d)
  have HW:=Qh hw
  have KA2:=Qh (show Q0y wr (.slice A1 hs.length c1) hs by rw [hw];exact KA.out.below (below_drewN (Below.refl w.heap.size w) d))
  clear hw
  by_cases hlt:k<hs.length
  ·obtain ⟨_,_,_,hm,_⟩:=KK2.out.cells
   obtain ⟨A,c,hA,_,_,_,hu',hr'⟩:=KA2.out
   injection hA with hA1 hA2 hA3
   subst hA1 hA3
   clear hA2
   obtain ⟨b1,o1,z,rfl,hb1,hgk,hz64,hca⟩:=ints_at hr' hu' hlt
   obtain ⟨vl,hvl⟩: ∃vl,vl=(if (S z).isSome=true then V z else .slice none 0 0):=⟨_,rfl⟩
   have hlk:=fun q=>((KK2.out.drewN q).store.lookOk2 hz64)
   rw [<-hvl] at hlk
   clear hvl
   have HN:=Qh (show (hs.take (k+1)).all (fun h=>(S h).isSome)=((hs.take k).all (fun h=>(S h).isSome) && (S z).isSome) by rw [List.take_add_one,hgk,List.all_append];simp)
   obtain ⟨bt,hbt⟩: ∃bt,bt=(hs.take k).all (fun h=>(S h).isSome):=⟨_,rfl⟩
   rw [<-hbt] at HN⊢
   clear hr' hu' hgk hb1 hbt
   go_wp2_with fail
   go_quiet (fail)
   have hadd:=Qh (show wr.drewN nq=w.drewN (d+nq) by rw [HW.out];simp [World.drewN,Nat.add_assoc])
   cases bt with
   |true=>
    go_wp2_with fail
    exact ⟨⟨k+1,d+nq,by omega,by go_num,by rw [HN.out];rfl,hadd.out⟩,by simp [intOf]<;>omega⟩
   |false=>
    go_wp2_with fail
    exact ⟨⟨k+1,d+nq,by omega,by go_num,by rw [HN.out];rfl,hadd.out⟩,by simp [intOf]<;>omega⟩
  ·obtain rfl:k=hs.length:=by omega
   go_wp2_with fail
   exact HP.out _ _ ⟨by rw [List.take_length];rfl,d,HW.out⟩
theorem Z9S (x y:F):toF 1 * x+toF 1 * y+toF 0=x+y:=by rw [Q8K,Q1G];grind
theorem Z4m (a b:List F):Q2K (Q0g a) (Q0g b) 1 1 0=Q0g (List.zipWith (· + ·) a b):=by
 unfold Q2K Q0g
 rw [List.zipWith_map,show (fun x y=>toF 1 * toF (ofF x)+toF 1 * toF (ofF y)+toF 0)=(fun x y:F=>x+y) from by funext x y;rw [Q0m,Q0m,Z9S]]
theorem Z7G (vd:Value) (ds:List Int) (w:World) {base kb mb n t last sz:Nat} {S:Int->Option (List Int)} {V:Int->Value} (hk:Q1k w base kb mb n t last sz S V) (h1:Q0h w vd ds) (hl:ds.length=n * (t+1)) (ht:t<=4) (hn9:n<=9):
  Calls Tryz.prog 133 #[.pointer (some ⟨kb,0,none⟩),vd,.bool true] w fun e w'=> ∃v,e= .returned v/\Q0c w' w.heap.size v (Q0g (Q3V n (Q9F t ds) n))/\Below w.heap.size w w':=by
 have KK:=Qh hk
 have KD:=Qh h1
 have HL:=Qh hl
 obtain ⟨hc0,hc1,_,_,_⟩:=hk.cells
 obtain ⟨A,c,rfl,hcc,hmc,hlc,_,_⟩:=h1
 suffices hgoal: ∀Post:Ending->World->Prop,(∀e w',(∃v,e= .returned v/\Q0c w' w.heap.size v (Q0g (Q3V n (Q9F t ds) n))/\Below w.heap.size w w')->Post e w')->Calls Tryz.prog 133 #[.pointer (some ⟨kb,0,none⟩),.slice A ds.length c,.bool true] w Post from hgoal _ fun e w' h=>h
 intro Post hpo
 have HP:=Qh hpo
 have hd45:ds.length<=45:=by rw [hl];exact Nat.le_trans (Nat.mul_le_mul hn9 (show (t+1)<=5 by omega)) (by omega)
 clear hpo hk hl hmc
 go_enter Tryz.func133,Tryz.ntmps133
 go_wp2_with (refine Q1a rfl _ _ rfl w.heap.size _ n rfl rfl rfl (by omega) (Nat.le_refl _) ?_)
 intro w1 ho hb
 have KO:=Qh ho
 have B1:=Qh hb
 have hkbs:=KK.out.lt
 replace hc0:=(hb.cell (p:=⟨kb,0,none⟩) hkbs).trans hc0
 replace hc1:=(hb.cell (p:=⟨kb,1,none⟩) hkbs).trans hc1
 clear ho hb
 go_wp2_with fail
 go_loopw [7,8,9] (fun v a i wr=> ∃k m:Nat,k<=n/\m=k * (t+1)/\i= .int .i64 k/\a= .int .i64 m/\Q0c wr w.heap.size v (Q0g (Q3V n (Q9F t ds) k))/\Below w.heap.size w wr) (fun _ _ i _=>n - (intOf i).toNat)
 case atStart=>exact ⟨0,0,Nat.zero_le _,by omega,rfl,rfl,by rw [show Q0g (Q3V n (Q9F t ds) 0)=List.replicate n 0 by simp [Q3V,Q0g];right;rfl];exact KO.out,B1.out⟩
 case round=>
  obtain ⟨k,m,hk,hm,rfl,rfl,hown,hbel⟩:=hrel
  clear KO B1 hc0 hc1
  have KO:=Qh hown
  have BEL:=Qh hbel
  have HM:=Qh hm
  have hsz:=hbel.size
  clear hown hbel
  have KKr:=Qh (KK.out.below BEL.out)
  obtain ⟨hc0,hc1,_,_,_⟩:=KKr.out.cells
  by_cases hlt:k<n
  ·have KDr:=Qh (KD.out.below BEL.out)
   have hk1:(k+1) * (t+1)<=n * (t+1):=Nat.mul_le_mul hlt (Nat.le_refl _)
   rw [Nat.succ_mul,<-hm] at hk1
   have hmd:m+(t+1)<=ds.length:=by rw [HL.out];omega
   have HM2:=Qh (show m+(t+1)=(k+1) * (t+1) by rw [Nat.succ_mul,<-hm])
   clear hm hk1
   have hkb:=KKr.out.lt
   have hcut:=KDr.out.cut (m+1) ((m+1)+t) (by omega) (by omega)
   rw [show (m+1)+t - (m+1)=t by omega] at hcut
   have HCUT:=Qh (show Q0h wr (cutV A c (m+1) t) ((ds.drop (m+1)).take t) from hcut)
   have HCL:=Qh (show ((ds.drop (m+1)).take t).length=t by rw [List.length_take,List.length_drop];omega)
   have hsl:=Q5l A ds.length c (m+1) ((m+1)+t) ((m:Int)+1) ((m:Int)+1+(t:Int)) (by omega) (by omega) (by omega) (by omega)
   rw [show (m+1)+t - (m+1)=t by omega] at hsl
   obtain ⟨vc,hvc⟩: ∃vc,vc=cutV A c (m+1) t:=⟨_,rfl⟩
   rw [show Value.slice (if c=(m+1) then A else A.map (·.add ((m+1) * 1))) t (c - (m+1))=vc from hvc.symm] at hsl
   rw [<-hvc] at HCUT
   clear hcut hvc
   obtain ⟨A',c',hA,_,_,_,hu,hr⟩:=KDr.out
   injection hA with hA1 hA2 hA3
   subst hA1 hA3
   clear hA2
   obtain ⟨b1,o1,z,rfl,hb1,hgk,hz64,hca⟩:=Q0O hr hu (show m<ds.length by omega)
   have HZ:=Qh (show Q9F t ds k=Q0f (z::(ds.drop (m+1)).take t) by unfold Q9F;rw [<-HM.out];simp [List.getD,hgk])
   clear hr hu hgk hb1
   go_wp2_with fail
   refine Q0D 14 (by kernel_rfl) (by kernel_rfl) ?_
   simp only [List.take_succ_cons,List.take_zero,List.drop_succ_cons,List.drop_zero]
   repeat (go_big_quiet_step ((fail)))
   refine wpQuiet_nil ?_
   intro nq
   go_wp2_with fail
   refine (Q6Y z vc ((ds.drop (m+1)).take t) n _ hz64 (HCUT.out.drewN nq) (by rw [HCL.out];omega) hn9).mono ?_
   rintro e w6 ⟨vl,rfl,ho6,hb6⟩
   rw [<-HZ.out] at ho6
   have KL:=Qh ho6
   have KO6:=Qh ((KO.out.drewN nq).below hb6)
   have BEL6:=Qh (Q0b (below_drewN BEL.out nq) hb6 hsz)
   replace hc0:=(hb6.cell (p:=⟨kb,0,none⟩) hkb).trans hc0
   replace hc1:=(hb6.cell (p:=⟨kb,1,none⟩) hkb).trans hc1
   have hs6:=BEL6.out.size
   clear ho6 hb6 KO BEL hsl HCUT
   try dsimp only
   go_wp2_with fail
   refine (Q6T _ _ _ _ 1 1 0 _ KO6.out.is KL.out.is (by rw [Q0d,Q0d,Q1p,Q0K];exact Nat.le_refl _) ⟨by omega,by omega⟩ ⟨by omega,by omega⟩ ⟨by omega,by omega⟩).mono ?_
   rintro e w7 ⟨vs,rfl,ho7,hb7⟩
   rw [Z4m] at ho7
   have K7:=Qh (show Q0c w7 w.heap.size vs (Q0g (Q3V n (Q9F t ds) (k+1))) from ho7.less hs6)
   have B7:=Qh (Q0b BEL6.out hb7 hs6)
   clear ho7 hb7 hc0 hc1
   try dsimp only
   go_wp2_with fail
   exact ⟨⟨k+1,m+(t+1),by omega,HM2.out,by go_num,by go_num,K7.out,B7.out⟩,by simp [intOf]<;>omega⟩
  ·obtain rfl:k=n:=by omega
   go_wp2_with fail
   exact HP.out _ _ ⟨_,rfl,KO.out,BEL.out⟩
theorem Z5B (vd:Value) (ds:List Int) (w:World) {base kb mb n t last sz:Nat} {S:Int->Option (List Int)} {V:Int->Value} (hk:Q1k w base kb mb n t last sz S V) (h1:Q0h w vd ds) (hl:ds.length=n * t) (ht:t<=4) (hn9:n<=9):
  Calls Tryz.prog 133 #[.pointer (some ⟨kb,0,none⟩),vd,.bool false] w fun e w'=> ∃v,e= .returned v/\Q0c w' w.heap.size v (Q0g (Q3V n (Q6X t ds) n))/\Below w.heap.size w w':=by
 have KK:=Qh hk
 have KD:=Qh h1
 have HL:=Qh hl
 obtain ⟨hc0,hc1,_,_,_⟩:=hk.cells
 obtain ⟨A,c,rfl,hcc,hmc,hlc,_,_⟩:=h1
 suffices hgoal: ∀Post:Ending->World->Prop,(∀e w',(∃v,e= .returned v/\Q0c w' w.heap.size v (Q0g (Q3V n (Q6X t ds) n))/\Below w.heap.size w w')->Post e w')->Calls Tryz.prog 133 #[.pointer (some ⟨kb,0,none⟩),.slice A ds.length c,.bool false] w Post from hgoal _ fun e w' h=>h
 intro Post hpo
 have HP:=Qh hpo
 have hd45:ds.length<=45:=by rw [hl];exact Nat.le_trans (Nat.mul_le_mul hn9 (show t<=5 by omega)) (by omega)
 clear hpo hk hl hmc
 go_enter Tryz.func133,Tryz.ntmps133
 go_wp2_with (refine Q1a rfl _ _ rfl w.heap.size _ n rfl rfl rfl (by omega) (Nat.le_refl _) ?_)
 intro w1 ho hb
 have KO:=Qh ho
 have B1:=Qh hb
 have hkbs:=KK.out.lt
 replace hc0:=(hb.cell (p:=⟨kb,0,none⟩) hkbs).trans hc0
 replace hc1:=(hb.cell (p:=⟨kb,1,none⟩) hkbs).trans hc1
 clear ho hb
 go_wp2_with fail
 go_loopw [7,8,9] (fun v a i wr=> ∃k m:Nat,k<=n/\m=k * t/\i= .int .i64 k/\a= .int .i64 m/\Q0c wr w.heap.size v (Q0g (Q3V n (Q6X t ds) k))/\Below w.heap.size w wr) (fun _ _ i _=>n - (intOf i).toNat)
 case atStart=>exact ⟨0,0,Nat.zero_le _,by omega,rfl,rfl,by rw [show Q0g (Q3V n (Q6X t ds) 0)=List.replicate n 0 by simp [Q3V,Q0g];right;rfl];exact KO.out,B1.out⟩
 case round=>
  obtain ⟨k,m,hk,hm,rfl,rfl,hown,hbel⟩:=hrel
  clear KO B1 hc0 hc1
  have KO:=Qh hown
  have BEL:=Qh hbel
  have HM:=Qh hm
  have hsz:=hbel.size
  clear hown hbel
  have KKr:=Qh (KK.out.below BEL.out)
  obtain ⟨hc0,hc1,_,_,_⟩:=KKr.out.cells
  by_cases hlt:k<n
  ·have KDr:=Qh (KD.out.below BEL.out)
   have hk1:(k+1) * t<=n * t:=Nat.mul_le_mul hlt (Nat.le_refl _)
   rw [Nat.succ_mul,<-hm] at hk1
   have hmd:m+t<=ds.length:=by rw [HL.out];omega
   have HM2:=Qh (show m+t=(k+1) * t by rw [Nat.succ_mul,<-hm])
   clear hm hk1
   have hkb:=KKr.out.lt
   have hcut:=KDr.out.cut m (m+t) (by omega) (by omega)
   rw [show m+t - m=t by omega] at hcut
   have HCUT:=Qh (show Q0h wr (cutV A c m t) ((ds.drop m).take t) from hcut)
   have HCL:=Qh (show ((ds.drop m).take t).length=t by rw [List.length_take,List.length_drop];omega)
   have hsl:=Q5l A ds.length c m (m+t) ((m:Int)) ((m:Int)+(t:Int)) (by omega) (by omega) (by omega) (by omega)
   rw [show m+t - m=t by omega] at hsl
   obtain ⟨vc,hvc⟩: ∃vc,vc=cutV A c m t:=⟨_,rfl⟩
   rw [show Value.slice (if c=m then A else A.map (·.add (m * 1))) t (c - m)=vc from hvc.symm] at hsl
   rw [<-hvc] at HCUT
   clear hcut hvc
   have HZ:=Qh (show Q6X t ds k=Q0f (0::(ds.drop m).take t) by unfold Q6X;rw [<-HM.out])
   have hz64:U64 0:=⟨by omega,by omega⟩
   go_wp2_with fail
   refine Q0D 14 (by kernel_rfl) (by kernel_rfl) ?_
   simp only [List.take_succ_cons,List.take_zero,List.drop_succ_cons,List.drop_zero]
   repeat (go_big_quiet_step ((fail)))
   refine wpQuiet_nil ?_
   intro nq
   go_wp2_with fail
   refine (Q6Y 0 vc ((ds.drop m).take t) n _ hz64 (HCUT.out.drewN nq) (by rw [HCL.out];omega) hn9).mono ?_
   rintro e w6 ⟨vl,rfl,ho6,hb6⟩
   rw [<-HZ.out] at ho6
   have KL:=Qh ho6
   have KO6:=Qh ((KO.out.drewN nq).below hb6)
   have BEL6:=Qh (Q0b (below_drewN BEL.out nq) hb6 hsz)
   replace hc0:=(hb6.cell (p:=⟨kb,0,none⟩) hkb).trans hc0
   replace hc1:=(hb6.cell (p:=⟨kb,1,none⟩) hkb).trans hc1
   have hs6:=BEL6.out.size
   clear ho6 hb6 KO BEL hsl HCUT
   try dsimp only
   go_wp2_with fail
   refine (Q6T _ _ _ _ 1 1 0 _ KO6.out.is KL.out.is (by rw [Q0d,Q0d,Q1p,Q0K];exact Nat.le_refl _) ⟨by omega,by omega⟩ ⟨by omega,by omega⟩ ⟨by omega,by omega⟩).mono ?_
   rintro e w7 ⟨vs,rfl,ho7,hb7⟩
   rw [Z4m] at ho7
   have K7:=Qh (show Q0c w7 w.heap.size vs (Q0g (Q3V n (Q6X t ds) (k+1))) from ho7.less hs6)
   have B7:=Qh (Q0b BEL6.out hb7 hs6)
   clear ho7 hb7 hc0 hc1
   try dsimp only
   go_wp2_with fail
   exact ⟨⟨k+1,m+t,by omega,HM2.out,by go_num,by go_num,K7.out,B7.out⟩,by simp [intOf]<;>omega⟩
  ·obtain rfl:k=n:=by omega
   go_wp2_with fail
   exact HP.out _ _ ⟨_,rfl,KO.out,BEL.out⟩
theorem Q2m.form {w w':World} {base kb mb n t last sz:Nat} {S:Int->Option (List Int)} {l:List Int} {e:Ending} (h:Q2m w base kb mb n t last sz S l e w'): ∃z er,e= .returned (.tuple #[.int .i64 z,.int .i64 er]):=by
 by_cases h8:sz=8
 ·exact ⟨_,_,(h.full h8).1⟩
 ·exact ⟨_,_,(h.new h8).1⟩
theorem Q2m.after {w w1 w':World} {base kb mb n t last sz:Nat} {S:Int->Option (List Int)} {l:List Int} {e:Ending} (hn:Q1F kb mb w w1) (h:Q2m w1 base kb mb n t last sz S l e w'):Q2m w base kb mb n t last sz S l e w':=by
 unfold Q2m at h⊢
 split at h
 ·rename_i h8;rw [if_pos h8];exact ⟨h.1,h.2.1,hn.trans h.2.2⟩
 ·rename_i h8;rw [if_neg h8];exact ⟨h.1,h.2.1,hn.trans h.2.2⟩
theorem Y2U (vd:Value) (ds:List Int) (w:World) {base kb mb n t last sz:Nat} {S:Int->Option (List Int)} {V:Int->Value} (hk:Q1k w base kb mb n t last sz S V) (h1:Q0h w vd ds) (hl:ds.length≠n * (t+1)) (ht:t<=4) (hn9:n<=9):
  Calls Tryz.prog 91 #[.pointer (some ⟨kb,0,none⟩),vd] w fun e w'=>e= .returned (.tuple #[.int .i64 0,.int .i64 1])/\Below w.heap.size w w':=by
 obtain ⟨hc0,hct,_,_,_⟩:=hk.cells
 obtain ⟨A,c,rfl,hc1,hm1,hl1,hu1,hr1⟩:=h1
 obtain ⟨m,hm⟩: ∃m,n * (t+1)=m:=⟨_,rfl⟩
 have hmul:(n:Int) * ((t:Int)+1)=(m:Int):=by rw [<-hm];simp
 have hmb:m<=45:=by rw [<-hm];exact Nat.le_trans (Nat.mul_le_mul hn9 (show t+1<=5 by omega)) (by omega)
 rw [hm] at hl
 have hne:((ds.length:Int) !=(m:Int))=true:=by rw [bne_iff_ne];omega
 clear hk hu1 hr1 hm1 hm hl
 go_enter Tryz.func91,Tryz.ntmps91
 go_wp2_with fail
 go_quiet (fail)
 go_wp2_with fail
 go_ret2
 exact ⟨rfl,below_drewN (Below.refl _ _) _⟩
theorem Y5b (vd:Value) (ds:List Int) (w:World) {base kb mb n t last sz:Nat} {S:Int->Option (List Int)} {V:Int->Value} (hk:Q1k w base kb mb n t last sz S V) (h1:Q0h w vd ds) (hl:ds.length=n * (t+1)) (ht:t<=4) (hn9:n<=9) (hlast:last<1000000):
  Calls Tryz.prog 91 #[.pointer (some ⟨kb,0,none⟩),vd] w fun e w'=>Q2m w base kb mb n t last sz S (Q0g (Q3V n (Q9F t ds) n)) e w':=by
 have KK:=Qh hk
 have KD:=Qh h1
 have HL:=Qh hl
 obtain ⟨hc0,hct,_,_,_⟩:=hk.cells
 obtain ⟨A,c,rfl,hc1,hm1,hl1,hu1,hr1⟩:=h1
 have hmul:(n:Int) * ((t:Int)+1)=(ds.length:Int):=by rw [hl];simp
 have hbs:base<=w.heap.size:=Nat.le_trans hk.le (Nat.le_of_lt hk.lt)
 clear hk hu1 hr1 hm1 hl
 suffices hgoal: ∀Post:Ending->World->Prop,(∀e w',Q2m w base kb mb n t last sz S (Q0g (Q3V n (Q9F t ds) n)) e w'->Post e w')->Calls Tryz.prog 91 #[.pointer (some ⟨kb,0,none⟩),.slice A ds.length c] w Post from hgoal _ fun e w' h=>h
 intro Post hpo
 have HP:=Qh hpo
 clear hpo
 go_enter Tryz.func91,Tryz.ntmps91
 go_wp2_with fail
 go_quiet (fail)
 go_wp2_with fail
 refine (Z7G _ ds _ (KK.out.drewN nq) (KD.out.drewN nq) HL.out ht hn9).mono ?_
 rintro e w1 ⟨v,rfl,ho,hb⟩
 have K1:=Qh ((KK.out.drewN nq).below hb)
 have B1:=Qh (Q0b (below_drewN (Below.refl w.heap.size w) nq) hb (Nat.le_refl _))
 have KV:=Qh (ho.less (base':=base) hbs)
 clear ho hb hc0 hct
 try dsimp only
 go_wp2_with fail
 refine (Z0S v _ _ K1.out hlast KV.out (by rw [Q0d,Q1p])).mono ?_
 intro e w2 hnk
 obtain ⟨z,er,rfl⟩:=hnk.form
 have NK:=Qh hnk
 clear hnk
 try dsimp only
 go_wp2_with fail
 exact HP.out _ _ (NK.out.after (Q1F.of_below B1.out))
theorem Q2m.cell {w w':World} {base kb mb n t last sz:Nat} {S:Int->Option (List Int)} {l:List Int} {e:Ending} (h:Q2m w base kb mb n t last sz S l e w'):w'.cell? ⟨kb,3,none⟩=some (.map (some mb))/\w'.cell? ⟨kb,1,none⟩=some (.int .i64 t):=by
 by_cases h8:sz=8
 ·obtain ⟨_,⟨V',hk⟩,_⟩:=h.full h8
  exact ⟨hk.cells.2.2.2.1,hk.cells.2.1⟩
 ·obtain ⟨_,⟨V',hk⟩,_⟩:=h.new h8
  exact ⟨hk.cells.2.2.2.1,hk.cells.2.1⟩
theorem Q7O {S:Int->Option (List Int)} {h:Int}:([h].all fun h=>(S h).isSome)=(S h).isSome:=by simp
theorem Z0T {S:Int->Option (List Int)} {g h:Int}:([g,h].all fun h=>(S h).isSome)=((S g).isSome && (S h).isSome):=by simp
theorem Z7H (h:Int) (w:World) {base kb mb n t last sz:Nat} {S:Int->Option (List Int)} {V:Int->Value} (hk:Q1k w base kb mb n t last sz S V) (hi:I64 h) (hn: ¬((S h).isSome=true)):
  Calls Tryz.prog 97 #[.pointer (some ⟨kb,0,none⟩),.int .i64 h] w fun e w'=>e= .returned (.int .i64 4)/\Below w.heap.size w w':=by
 have BA:=Qh (show Below w.heap.size w (w.alloc (.cells #[.int .i64 h] 3)) from (Below.refl w.heap.size w).alloc (Nat.le_refl _) _)
 have K1:=Qh (hk.below BA.out)
 have LI:=Qh (show Q0y (w.alloc (.cells #[.int .i64 h] 3)) (.slice (some ⟨w.heap.size,0,none⟩) 1 1) [h] from Q9o w [h] (by simp;exact hi) (by simp))
 have HTH:=Qh (show ([h].all fun h=>(S h).isSome)=false by rw [Q7O];simpa using hn)
 clear hk hn
 go_enter Tryz.func97,Tryz.ntmps97
 go_wp2_with fail
 refine (Q2T _ [h] _ K1.out LI.out).mono ?_
 rintro e w' ⟨rfl,d,rfl⟩
 rw [HTH.out]
 try dsimp only
 go_wp2_with fail
 go_ret
 exact ⟨rfl,below_drewN BA.out d⟩
theorem Z7I (h:Int) (w:World) {base kb mb n t last sz:Nat} {S:Int->Option (List Int)} {V:Int->Value} (hk:Q1k w base kb mb n t last sz S V) (hi:I64 h) (hn: ¬((S h).isSome=true)):
  Calls Tryz.prog 96 #[.pointer (some ⟨kb,0,none⟩),.int .i64 h] w fun e w'=>e= .returned (.tuple #[.int .u64 0,.int .i64 4])/\Below w.heap.size w w':=by
 have BA:=Qh (show Below w.heap.size w (w.alloc (.cells #[.int .i64 h] 3)) from (Below.refl w.heap.size w).alloc (Nat.le_refl _) _)
 have K1:=Qh (hk.below BA.out)
 have LI:=Qh (show Q0y (w.alloc (.cells #[.int .i64 h] 3)) (.slice (some ⟨w.heap.size,0,none⟩) 1 1) [h] from Q9o w [h] (by simp;exact hi) (by simp))
 have HTH:=Qh (show ([h].all fun h=>(S h).isSome)=false by rw [Q7O];simpa using hn)
 clear hk hn
 go_enter Tryz.func96,Tryz.ntmps96
 go_wp2_with fail
 refine (Q2T _ [h] _ K1.out LI.out).mono ?_
 rintro e w' ⟨rfl,d,rfl⟩
 rw [HTH.out]
 try dsimp only
 go_wp2_with fail
 go_ret2
 exact ⟨rfl,below_drewN BA.out d⟩
theorem Z2V (h:Int) (vd:Value) (w:World) {base kb mb n t last sz:Nat} {S:Int->Option (List Int)} {V:Int->Value} (hk:Q1k w base kb mb n t last sz S V) (hi:I64 h) (hn: ¬((S h).isSome=true)):
  Calls Tryz.prog 93 #[.pointer (some ⟨kb,0,none⟩),.int .i64 h,vd] w fun e w'=>e= .returned (.int .i64 4)/\Below w.heap.size w w':=by
 have BA:=Qh (show Below w.heap.size w (w.alloc (.cells #[.int .i64 h] 3)) from (Below.refl w.heap.size w).alloc (Nat.le_refl _) _)
 have K1:=Qh (hk.below BA.out)
 have LI:=Qh (show Q0y (w.alloc (.cells #[.int .i64 h] 3)) (.slice (some ⟨w.heap.size,0,none⟩) 1 1) [h] from Q9o w [h] (by simp;exact hi) (by simp))
 have HTH:=Qh (show ([h].all fun h=>(S h).isSome)=false by rw [Q7O];simpa using hn)
 clear hk hn
 go_enter Tryz.func93,Tryz.ntmps93
 go_wp2_with fail
 refine (Q2T _ [h] _ K1.out LI.out).mono ?_
 rintro e w' ⟨rfl,d,rfl⟩
 rw [HTH.out]
 try dsimp only
 go_wp2_with fail
 go_ret
 exact ⟨rfl,below_drewN BA.out d⟩
theorem Q5Q (g h x y z:Int) (w:World) {base kb mb n t last sz:Nat} {S:Int->Option (List Int)} {V:Int->Value} (hk:Q1k w base kb mb n t last sz S V) (hi:I64 g) (hj:I64 h) (hn: ¬((S g).isSome=true/\(S h).isSome=true)):
  Calls Tryz.prog 94 #[.pointer (some ⟨kb,0,none⟩),.int .i64 g,.int .i64 h,.int .u64 x,.int .u64 y,.int .u64 z] w fun e w'=>e= .returned (.tuple #[.int .i64 0,.int .i64 4])/\Below w.heap.size w w':=by
 have BA:=Qh (show Below w.heap.size w (w.alloc (.cells #[.int .i64 g,.int .i64 h] 3)) from (Below.refl w.heap.size w).alloc (Nat.le_refl _) _)
 have K1:=Qh (hk.below BA.out)
 have LI:=Qh (show Q0y (w.alloc (.cells #[.int .i64 g,.int .i64 h] 3)) (.slice (some ⟨w.heap.size,0,none⟩) 2 2) [g,h] from Q9o w [g,h] (by simp;exact ⟨hi,hj⟩) (by simp))
 have HTH:=Qh (show ([g,h].all fun h=>(S h).isSome)=false by rw [Z0T];simpa using hn)
 clear hk hn
 go_enter Tryz.func94,Tryz.ntmps94
 go_wp2_with fail
 refine (Q2T _ [g,h] _ K1.out LI.out).mono ?_
 rintro e w' ⟨rfl,d,rfl⟩
 rw [HTH.out]
 try dsimp only
 go_wp2_with fail
 go_ret2
 exact ⟨rfl,below_drewN BA.out d⟩
theorem Q7s (g h:Int) (vd:Value) (w:World) {base kb mb n t last sz:Nat} {S:Int->Option (List Int)} {V:Int->Value} (hk:Q1k w base kb mb n t last sz S V) (hi:I64 g) (hj:I64 h) (hn: ¬((S g).isSome=true/\(S h).isSome=true)):
  Calls Tryz.prog 95 #[.pointer (some ⟨kb,0,none⟩),.int .i64 g,.int .i64 h,vd] w fun e w'=>e= .returned (.tuple #[.int .i64 0,.int .i64 4])/\Below w.heap.size w w':=by
 have BA:=Qh (show Below w.heap.size w (w.alloc (.cells #[.int .i64 g,.int .i64 h] 3)) from (Below.refl w.heap.size w).alloc (Nat.le_refl _) _)
 have K1:=Qh (hk.below BA.out)
 have LI:=Qh (show Q0y (w.alloc (.cells #[.int .i64 g,.int .i64 h] 3)) (.slice (some ⟨w.heap.size,0,none⟩) 2 2) [g,h] from Q9o w [g,h] (by simp;exact ⟨hi,hj⟩) (by simp))
 have HTH:=Qh (show ([g,h].all fun h=>(S h).isSome)=false by rw [Z0T];simpa using hn)
 clear hk hn
 go_enter Tryz.func95,Tryz.ntmps95
 go_wp2_with fail
 refine (Q2T _ [g,h] _ K1.out LI.out).mono ?_
 rintro e w' ⟨rfl,d,rfl⟩
 rw [HTH.out]
 try dsimp only
 go_wp2_with fail
 go_ret2
 exact ⟨rfl,below_drewN BA.out d⟩
theorem Y2V (h:Int) (l0:List Int) (w:World) {base kb mb n t last sz:Nat} {S:Int->Option (List Int)} {V:Int->Value} (hk:Q1k w base kb mb n t last sz S V) (hi:I64 h) (hs:S h=some l0):
  Calls Tryz.prog 97 #[.pointer (some ⟨kb,0,none⟩),.int .i64 h] w fun e w'=>e= .returned (.int .i64 0)/\Q1k w' base kb mb n t last (sz - 1) (upd S h none) V/\Q1F kb mb w w':=by
 have BA:=Qh (show Below w.heap.size w (w.alloc (.cells #[.int .i64 h] 3)) from (Below.refl w.heap.size w).alloc (Nat.le_refl _) _)
 have K1:=Qh (hk.below BA.out)
 have LI:=Qh (show Q0y (w.alloc (.cells #[.int .i64 h] 3)) (.slice (some ⟨w.heap.size,0,none⟩) 1 1) [h] from Q9o w [h] (by simp;exact hi) (by simp))
 have HTH:=Qh (show ([h].all fun h=>(S h).isSome)=true by rw [Q7O,hs];rfl)
 suffices hgoal: ∀Post:Ending->World->Prop,(∀e w',e= .returned (.int .i64 0)/\Q1k w' base kb mb n t last (sz - 1) (upd S h none) V/\Q1F kb mb w w'->Post e w')->Calls Tryz.prog 97 #[.pointer (some ⟨kb,0,none⟩),.int .i64 h] w Post from hgoal _ fun e w' h=>h
 intro Post hpo
 have HP:=Qh hpo
 clear hpo hk
 go_enter Tryz.func97,Tryz.ntmps97
 go_wp2_with fail
 refine (Q2T _ [h] _ K1.out LI.out).mono ?_
 rintro e w' ⟨rfl,d,rfl⟩
 rw [HTH.out]
 replace K1:=Qh (K1.out.drewN d)
 replace BA:=Qh (below_drewN BA.out d)
 obtain ⟨w1,hw1⟩: ∃w1,w1=(w.alloc (.cells #[.int .i64 h] 3)).drewN d:=⟨_,rfl⟩
 rw [<-hw1] at K1 BA⊢
 clear hw1 LI
 try dsimp only
 obtain ⟨_,hct,_,hm,_⟩:=K1.out.cells
 have hb1:=K1.out.le
 have hb2:=K1.out.lt
 go_wp2_with (at_delete;refine Q6A rfl _ _ rfl rfl K1.out.store h hi rfl (by rw [hs];rfl) ?_)
 intro w2 hst hg2
 have K2:=Qh (K1.out.turned hst hg2 (by have:=K1.out.sz8;omega) (fun z ys hz=>by
  unfold upd at hz
  by_cases he:z=h
  ·rw [if_pos he] at hz;cases hz
  ·rw [if_neg he] at hz
   exact K1.out.len z ys hz))
 have B2:=Qh (show Q1F kb mb w w2 from (Q1F.of_below BA.out).grown hg2 (.inr rfl))
 clear hst hg2 hct hm
 go_wp2_with fail
 exact HP.out _ _ ⟨rfl,K2.out,B2.out⟩
theorem Z2W {l0 l1:List Int} (x y:Int):Q2K l0 l1 x y 0=Q8H (· + ·) (l0.map fun z=>ofF (toF z * toF x)) (l1.map fun z=>ofF (toF z * toF y)):=by
 unfold Q2K Q8H
 simp only [List.map_map,List.zipWith_map]
 congr 2
 funext a b
 simp only [Function.comp,Q0m,Q1G,Q6b]
 grind
theorem Z5C (l:List Int) (x:Int):Q2K l l 1 0 x=l.map fun y=>ofF (toF y+toF x):=by
 unfold Q2K
 rw [List.zipWith_self,List.map_map]
 refine List.map_congr_left fun a _=> ?_
 simp only [Function.comp,Q8K,Q1G,Y3P,Q7y,Q6b]
theorem Z0U (g h x y z:Int) (l0 l1:List Int) (w:World) {base kb mb n t last sz:Nat} {S:Int->Option (List Int)} {V:Int->Value} (hk:Q1k w base kb mb n t last sz S V) (hi:I64 g) (hj:I64 h) (hs:S g=some l0) (ht0:S h=some l1) (hx:U64 x) (hy:U64 y) (hz:U64 z) (hlast:last<1000000):
  Calls Tryz.prog 94 #[.pointer (some ⟨kb,0,none⟩),.int .i64 g,.int .i64 h,.int .u64 x,.int .u64 y,.int .u64 z] w fun e w'=>Q2m w base kb mb n t last sz S (Q2K l0 l1 x y z) e w':=by
 have hl0:=(hk.len g l0 hs).1
 have hl1:=(hk.len h l1 ht0).1
 have BA:=Qh (show Below w.heap.size w (w.alloc (.cells #[.int .i64 g,.int .i64 h] 3)) from (Below.refl w.heap.size w).alloc (Nat.le_refl _) _)
 have K1:=Qh (hk.below BA.out)
 have LI:=Qh (show Q0y (w.alloc (.cells #[.int .i64 g,.int .i64 h] 3)) (.slice (some ⟨w.heap.size,0,none⟩) 2 2) [g,h] from Q9o w [g,h] (by simp;exact ⟨hi,hj⟩) (by simp))
 have HTH:=Qh (show ([g,h].all fun h=>(S h).isSome)=true by rw [Z0T,hs,ht0];rfl)
 have HX:=Qh hx
 have HY:=Qh hy
 have HZ:=Qh hz
 suffices hgoal: ∀Post:Ending->World->Prop,(∀e w',Q2m w base kb mb n t last sz S (Q2K l0 l1 x y z) e w'->Post e w')->Calls Tryz.prog 94 #[.pointer (some ⟨kb,0,none⟩),.int .i64 g,.int .i64 h,.int .u64 x,.int .u64 y,.int .u64 z] w Post from hgoal _ fun e w' h=>h
 intro Post hpo
 have HP:=Qh hpo
 clear hpo hk hx hy hz
 go_enter Tryz.func94,Tryz.ntmps94
 go_wp2_with fail
 refine (Q2T _ [g,h] _ K1.out LI.out).mono ?_
 rintro e w' ⟨rfl,d,rfl⟩
 rw [HTH.out]
 replace K1:=Qh (K1.out.drewN d)
 replace BA:=Qh (below_drewN BA.out d)
 obtain ⟨w1,hw1⟩: ∃w1,w1=(w.alloc (.cells #[.int .i64 g,.int .i64 h] 3)).drewN d:=⟨_,rfl⟩
 rw [<-hw1] at K1 BA⊢
 clear hw1 LI
 try dsimp only
 obtain ⟨_,hct,_,hm,_⟩:=K1.out.cells
 have hb1:=K1.out.le
 have hb2:=K1.out.lt
 have KQ:=Qh (K1.out.drewN 1)
 have hlook:(Instr.lookup 117 (.map (some mb)) (.int .i64 g) false).run Tryz.prog w1.drew= .ok (V g) w1.drew:=KQ.out.store.look hi (by rw [hs];rfl)
 have hlook2:(Instr.lookup 117 (.map (some mb)) (.int .i64 h) false).run Tryz.prog w1.drew= .ok (V h) w1.drew:=KQ.out.store.look hj (by rw [ht0];rfl)
 have KR:=Qh (KQ.out.store.rows g l0 hs)
 have KR2:=Qh (KQ.out.store.rows h l1 ht0)
 go_wp2_with fail
 go_region_held3 (fun w'=>w'.cell? ⟨kb,3,none⟩=some (.map (some mb))) (go_keep) (first|(go_at_call 135;refine (Q6T _ _ l0 l1 x y z _ KR.out.is KR2.out.is (by omega) HX.out HY.out HZ.out).mono ?_;rintro e w2 ⟨v,rfl,ho,hb⟩;have q1:=(hb.cell (p:=⟨kb,3,none⟩) hb2).trans hm;have K2:=Qh (KQ.out.below hb);have B2:=Qh (Q0b (below_drewN BA.out 1) hb BA.out.size);have KV:=Qh (ho.less (base':=base) (show base<=w1.heap.size by omega));clear ho hb)|(go_at_call 132;refine (Z0S v _ _ K2.out hlast KV.out (by rw [Q8j];omega)).mono ?_;intro e w3 hnk;obtain ⟨z',er,rfl⟩:=hnk.form;have q2:=hnk.cell.1;have NK:=Qh hnk;clear hnk))
 all_goals (
  clear hlook hlook2 hct hm q1 q2
  try dsimp only
  go_wp2_with fail
  exact HP.out _ _ (NK.out.after (Q1F.of_below B2.out)))
theorem Z2X (g h:Int) (vd:Value) (ds l0 l1:List Int) (w:World) {base kb mb n t last sz:Nat} {S:Int->Option (List Int)} {V:Int->Value} (hk:Q1k w base kb mb n t last sz S V) (hi:I64 g) (hj:I64 h) (hs:S g=some l0) (ht0:S h=some l1) (hd:Q0h w vd ds) (hdl:ds.length≠n * t) (ht:t<=4) (hn9:n<=9):
  Calls Tryz.prog 95 #[.pointer (some ⟨kb,0,none⟩),.int .i64 g,.int .i64 h,vd] w fun e w'=>e= .returned (.tuple #[.int .i64 0,.int .i64 1])/\Below w.heap.size w w':=by
 have BA:=Qh (show Below w.heap.size w (w.alloc (.cells #[.int .i64 g,.int .i64 h] 3)) from (Below.refl w.heap.size w).alloc (Nat.le_refl _) _)
 have K1:=Qh (hk.below BA.out)
 have LI:=Qh (show Q0y (w.alloc (.cells #[.int .i64 g,.int .i64 h] 3)) (.slice (some ⟨w.heap.size,0,none⟩) 2 2) [g,h] from Q9o w [g,h] (by simp;exact ⟨hi,hj⟩) (by simp))
 have HTH:=Qh (show ([g,h].all fun h=>(S h).isSome)=true by rw [Z0T,hs,ht0];rfl)
 obtain ⟨A,c,rfl,hc1,hm1,hl1,hu1,hr1⟩:=hd
 obtain ⟨m,hm⟩: ∃m,n * t=m:=⟨_,rfl⟩
 have hmul:(n:Int) * (t:Int)=(m:Int):=by rw [<-hm];simp
 have hmb:m<=36:=by rw [<-hm];exact Nat.le_trans (Nat.mul_le_mul hn9 ht) (by omega)
 rw [hm] at hdl
 have hne:((ds.length:Int) !=(m:Int))=true:=by rw [bne_iff_ne];omega
 clear hk hu1 hr1 hm1 hm hdl
 go_enter Tryz.func95,Tryz.ntmps95
 go_wp2_with fail
 refine (Q2T _ [g,h] _ K1.out LI.out).mono ?_
 rintro e w' ⟨rfl,d,rfl⟩
 rw [HTH.out]
 replace K1:=Qh (K1.out.drewN d)
 replace BA:=Qh (below_drewN BA.out d)
 obtain ⟨w1,hw1⟩: ∃w1,w1=(w.alloc (.cells #[.int .i64 g,.int .i64 h] 3)).drewN d:=⟨_,rfl⟩
 rw [<-hw1] at K1 BA⊢
 clear hw1 LI
 try dsimp only
 obtain ⟨hc0,hct,_,_,_⟩:=K1.out.cells
 go_wp2_with fail
 go_quiet (fail)
 go_wp2_with fail
 go_ret2
 exact ⟨rfl,below_drewN BA.out _⟩
theorem Z4n (g h:Int) (vd:Value) (ds l0 l1:List Int) (w:World) {base kb mb n t last sz:Nat} {S:Int->Option (List Int)} {V:Int->Value} (hk:Q1k w base kb mb n t last sz S V) (hi:I64 g) (hj:I64 h) (hs:S g=some l0) (ht0:S h=some l1) (hd:Q0h w vd ds) (hdl:ds.length=n * t) (ht:t<=4) (hn1:1<=n) (hn9:n<=9) (hlast:last<1000000):
  Calls Tryz.prog 95 #[.pointer (some ⟨kb,0,none⟩),.int .i64 g,.int .i64 h,vd] w fun e w'=>Q2m w base kb mb n t last sz S (Q0g (Q2d n t (Q0f l0) (Q0f l1) (Q0f ds))) e w':=by
 have hl0:=(hk.len g l0 hs).1
 have hl1:=(hk.len h l1 ht0).1
 have BA:=Qh (show Below w.heap.size w (w.alloc (.cells #[.int .i64 g,.int .i64 h] 3)) from (Below.refl w.heap.size w).alloc (Nat.le_refl _) _)
 have K1:=Qh (hk.below BA.out)
 have KD:=Qh (hd.below BA.out)
 have LI:=Qh (show Q0y (w.alloc (.cells #[.int .i64 g,.int .i64 h] 3)) (.slice (some ⟨w.heap.size,0,none⟩) 2 2) [g,h] from Q9o w [g,h] (by simp;exact ⟨hi,hj⟩) (by simp))
 have HTH:=Qh (show ([g,h].all fun h=>(S h).isSome)=true by rw [Z0T,hs,ht0];rfl)
 have HDL:=Qh hdl
 obtain ⟨A,c,rfl,hc1,hm1,hlx,hu1,hr1⟩:=hd
 have hmul:(n:Int) * (t:Int)=(ds.length:Int):=by rw [hdl];simp
 suffices hgoal: ∀Post:Ending->World->Prop,(∀e w',Q2m w base kb mb n t last sz S (Q0g (Q2d n t (Q0f l0) (Q0f l1) (Q0f ds))) e w'->Post e w')->Calls Tryz.prog 95 #[.pointer (some ⟨kb,0,none⟩),.int .i64 g,.int .i64 h,.slice A ds.length c] w Post from hgoal _ fun e w' h=>h
 intro Post hpo
 have HP:=Qh hpo
 clear hpo hk hu1 hr1 hm1 hdl
 go_enter Tryz.func95,Tryz.ntmps95
 go_wp2_with fail
 refine (Q2T _ [g,h] _ K1.out LI.out).mono ?_
 rintro e w' ⟨rfl,d,rfl⟩
 rw [HTH.out]
 replace K1:=Qh (K1.out.drewN d)
 replace KD:=Qh (KD.out.drewN d)
 replace BA:=Qh (below_drewN BA.out d)
 obtain ⟨w1,hw1⟩: ∃w1,w1=(w.alloc (.cells #[.int .i64 g,.int .i64 h] 3)).drewN d:=⟨_,rfl⟩
 rw [<-hw1] at K1 BA KD⊢
 clear hw1 LI
 try dsimp only
 obtain ⟨hc0,hct,_,hm,_⟩:=K1.out.cells
 have hb1:=K1.out.le
 have hb2:=K1.out.lt
 go_wp2_with fail
 go_quiet (fail)
 replace K1:=Qh (K1.out.drewN nq)
 replace KD:=Qh (KD.out.drewN nq)
 replace BA:=Qh (below_drewN BA.out nq)
 obtain ⟨w2,hw2⟩: ∃w2,w2=w1.drewN nq:=⟨_,rfl⟩
 have hs2:w2.heap.size=w1.heap.size:=by rw [hw2];rfl
 rw [<-hw2] at K1 BA KD⊢
 clear hw2 hc0 hct hm
 obtain ⟨hc0,hct,_,hm,_⟩:=K1.out.cells
 have KQ:=Qh (K1.out.drewN 1)
 have hlook:(Instr.lookup 117 (.map (some mb)) (.int .i64 g) false).run Tryz.prog w2.drew= .ok (V g) w2.drew:=KQ.out.store.look hi (by rw [hs];rfl)
 have hlook2:(Instr.lookup 117 (.map (some mb)) (.int .i64 h) false).run Tryz.prog w2.drew= .ok (V h) w2.drew:=KQ.out.store.look hj (by rw [ht0];rfl)
 have KR:=Qh (KQ.out.store.rows g l0 hs)
 have KR2:=Qh (KQ.out.store.rows h l1 ht0)
 have KDQ:=Qh (KD.out.drewN 1)
 have hkb2:=K1.out.lt
 go_wp2_with fail
 go_region_held3 (fun w'=>w'.cell? ⟨kb,1,none⟩=some (.int .i64 t)/\w'.cell? ⟨kb,3,none⟩=some (.map (some mb))) (go_keep) (first|(go_at_call 136;refine (Z9R n t _ _ _ l0 l1 ds _ KR.out.is KR2.out.is KDQ.out hl0 hl1 HDL.out ht hn1 hn9).mono ?_;rintro e w3 ⟨v,vg,vs,rfl,ho,_,hb⟩;have q0:=(hb.cell (p:=⟨kb,1,none⟩) hkb2).trans hct;have q1:=(hb.cell (p:=⟨kb,3,none⟩) hkb2).trans hm;have HO2:=Qh ho;have HB3:=Qh hb;clear ho hb))
 all_goals (
  have K2:=Qh (KQ.out.below HB3.out)
  have B2:=Qh (Q0b (below_drewN BA.out 1) HB3.out BA.out.size)
  have KV:=Qh (HO2.out.less (base':=base) (show base<=w2.heap.size by omega))
  clear hlook hlook2 hct hm q0 q1 HO2 HB3
  try dsimp only
  go_wp2_with fail
  refine (Z0S v _ _ K2.out hlast KV.out (by rw [Q0d];simp [Q2d,Q9k])).mono ?_
  intro e w4 hnk
  obtain ⟨z',er,rfl⟩:=hnk.form
  have NK:=Qh hnk
  clear hnk
  try dsimp only
  go_wp2_with fail
  exact HP.out _ _ (NK.out.after (Q1F.of_below B2.out)))
theorem Z4o (h:Int) (vd:Value) (ds l0:List Int) (w:World) {base kb mb n t last sz:Nat} {S:Int->Option (List Int)} {V:Int->Value} (hk:Q1k w base kb mb n t last sz S V) (hi:I64 h) (hs:S h=some l0) (hd:Q0h w vd ds) (hdl:ds.length≠n * t) (ht:t<=4) (hn9:n<=9):
  Calls Tryz.prog 93 #[.pointer (some ⟨kb,0,none⟩),.int .i64 h,vd] w fun e w'=>e= .returned (.int .i64 1)/\Below w.heap.size w w':=by
 have BA:=Qh (show Below w.heap.size w (w.alloc (.cells #[.int .i64 h] 3)) from (Below.refl w.heap.size w).alloc (Nat.le_refl _) _)
 have K1:=Qh (hk.below BA.out)
 have LI:=Qh (show Q0y (w.alloc (.cells #[.int .i64 h] 3)) (.slice (some ⟨w.heap.size,0,none⟩) 1 1) [h] from Q9o w [h] (by simp;exact hi) (by simp))
 have HTH:=Qh (show ([h].all fun h=>(S h).isSome)=true by rw [Q7O,hs];rfl)
 obtain ⟨A,c,rfl,hc1,hm1,hl1,hu1,hr1⟩:=hd
 obtain ⟨m,hm⟩: ∃m,n * t=m:=⟨_,rfl⟩
 have hmul:(n:Int) * (t:Int)=(m:Int):=by rw [<-hm];simp
 have hmb:m<=36:=by rw [<-hm];exact Nat.le_trans (Nat.mul_le_mul hn9 ht) (by omega)
 rw [hm] at hdl
 have hne:((ds.length:Int) !=(m:Int))=true:=by rw [bne_iff_ne];omega
 clear hk hu1 hr1 hm1 hm hdl
 go_enter Tryz.func93,Tryz.ntmps93
 go_wp2_with fail
 refine (Q2T _ [h] _ K1.out LI.out).mono ?_
 rintro e w' ⟨rfl,d,rfl⟩
 rw [HTH.out]
 replace K1:=Qh (K1.out.drewN d)
 replace BA:=Qh (below_drewN BA.out d)
 obtain ⟨w1,hw1⟩: ∃w1,w1=(w.alloc (.cells #[.int .i64 h] 3)).drewN d:=⟨_,rfl⟩
 rw [<-hw1] at K1 BA⊢
 clear hw1 LI
 try dsimp only
 obtain ⟨hc0,hct,_,_,_⟩:=K1.out.cells
 go_wp2_with fail
 go_quiet (fail)
 go_wp2_with fail
 go_ret
 exact ⟨rfl,below_drewN BA.out _⟩
theorem Z5D (h:Int) (vd:Value) (ds l0:List Int) (w:World) {base kb mb n t last sz:Nat} {S:Int->Option (List Int)} {V:Int->Value} (hk:Q1k w base kb mb n t last sz S V) (hi:I64 h) (hs:S h=some l0) (hd:Q0h w vd ds) (hdl:ds.length=n * t) (ht:t<=4) (hn9:n<=9):
  Calls Tryz.prog 93 #[.pointer (some ⟨kb,0,none⟩),.int .i64 h,vd] w fun e w'=>e= .returned (.int .i64 0)/\(∃V',Q1k w' base kb mb n t last sz (upd S h (some (Q0g (List.zipWith (· + ·) (Q0f l0) (Q3V n (Q6X t ds) n))))) V')/\Q1F kb mb w w':=by
 have hl0:=(hk.len h l0 hs).1
 have hk1:=(hk.len h l0 hs).2
 have HU0:=Qh (hk.store.rows h l0 hs)
 have BA:=Qh (show Below w.heap.size w (w.alloc (.cells #[.int .i64 h] 3)) from (Below.refl w.heap.size w).alloc (Nat.le_refl _) _)
 have K1:=Qh (hk.below BA.out)
 have KD:=Qh (hd.below BA.out)
 have LI:=Qh (show Q0y (w.alloc (.cells #[.int .i64 h] 3)) (.slice (some ⟨w.heap.size,0,none⟩) 1 1) [h] from Q9o w [h] (by simp;exact hi) (by simp))
 have HTH:=Qh (show ([h].all fun h=>(S h).isSome)=true by rw [Q7O,hs];rfl)
 have HDL:=Qh hdl
 obtain ⟨A,c,rfl,hc1,hm1,hlx,hu1,hr1⟩:=hd
 have hmul:(n:Int) * (t:Int)=(ds.length:Int):=by rw [hdl];simp
 suffices hgoal: ∀Post:Ending->World->Prop,(∀e w',e= .returned (.int .i64 0)/\(∃V',Q1k w' base kb mb n t last sz (upd S h (some (Q0g (List.zipWith (· + ·) (Q0f l0) (Q3V n (Q6X t ds) n))))) V')/\Q1F kb mb w w'->Post e w')->Calls Tryz.prog 93 #[.pointer (some ⟨kb,0,none⟩),.int .i64 h,.slice A ds.length c] w Post from hgoal _ fun e w' h=>h
 intro Post hpo
 have HP:=Qh hpo
 have HS:=Qh hs
 clear hpo hk hu1 hr1 hm1 hdl hs
 go_enter Tryz.func93,Tryz.ntmps93
 go_wp2_with fail
 refine (Q2T _ [h] _ K1.out LI.out).mono ?_
 rintro e w' ⟨rfl,d,rfl⟩
 rw [HTH.out]
 replace K1:=Qh (K1.out.drewN d)
 replace KD:=Qh (KD.out.drewN d)
 replace BA:=Qh (below_drewN BA.out d)
 obtain ⟨w1,hw1⟩: ∃w1,w1=(w.alloc (.cells #[.int .i64 h] 3)).drewN d:=⟨_,rfl⟩
 rw [<-hw1] at K1 BA KD⊢
 clear hw1 LI
 try dsimp only
 obtain ⟨hc0,hct,_,hm,_⟩:=K1.out.cells
 go_wp2_with fail
 go_quiet (fail)
 replace K1:=Qh (K1.out.drewN nq)
 replace KD:=Qh (KD.out.drewN nq)
 replace BA:=Qh (below_drewN BA.out nq)
 obtain ⟨w2,hw2⟩: ∃w2,w2=w1.drewN nq:=⟨_,rfl⟩
 rw [<-hw2] at K1 BA KD⊢
 clear hw2 hc0 hct hm
 obtain ⟨hc0,hct,_,hm,_⟩:=K1.out.cells
 have hb1:=K1.out.le
 have hb2:=K1.out.lt
 have KQ:=Qh (K1.out.drewN 1)
 have KDQ:=Qh (KD.out.drewN 1)
 have hlook:(Instr.lookup 117 (.map (some mb)) (.int .i64 h) false).run Tryz.prog w2.drew= .ok (V h) w2.drew:=KQ.out.store.look hi (by rw [HS.out];rfl)
 have HNE:=Qh (show some kb≠some mb from fun e=>KQ.out.ne (by injection e))
 have hls:(Q0f l0).length=n:=by rw [Q0l];exact hl0
 have HADD:=Qh (show Q2K l0 (Q0g (Q3V n (Q6X t ds) n)) 1 1 0=Q0g (List.zipWith (· + ·) (Q0f l0) (Q3V n (Q6X t ds) n)) by
  unfold Q2K Q0g Q0f
  rw [List.zipWith_map_right,List.zipWith_map_left,show (fun x y=>toF 1 * toF x+toF 1 * toF (ofF y)+toF 0)=(fun (x:Int) (y:F)=>toF x+y) from by funext x y;rw [Q0m,Z9S]])
 go_wp2_with fail
 go_region_held3 (fun w'=>w'.cell? ⟨kb,3,none⟩=some (.map (some mb))) (go_keep) (first|(go_at_call 133;refine (Z5B _ ds _ KQ.out KDQ.out HDL.out ht hn9).mono ?_;rintro e w5 ⟨v5,rfl,ho5,hb5⟩;have K5:=Qh (KQ.out.below hb5);have hlook5:=K5.out.store.look hi (by rw [HS.out];rfl);have q5:=(hb5.cell (p:=⟨kb,3,none⟩) hb2).trans hm;have HO5:=Qh ho5;have B5:=Qh (Q0b (below_drewN BA.out 1) hb5 BA.out.size);have KR:=Qh (K5.out.store.rows h l0 HS.out);clear ho5 hb5)|(go_at_call 135;refine (Q6T _ _ l0 _ 1 1 0 _ KR.out.is HO5.out.is (by rw [Q0d,Q1p];omega) ⟨by omega,by omega⟩ ⟨by omega,by omega⟩ ⟨by omega,by omega⟩).mono ?_;rintro e w6 ⟨v6,rfl,ho6,hb6⟩;rw [HADD.out] at ho6;have K6:=Qh (K5.out.below hb6);have hb5':=K5.out.lt;have q6:=(hb6.cell (p:=⟨kb,3,none⟩) hb5').trans q5;obtain ⟨w7,hrun7,hst7,hg7⟩:=K6.out.store.store_run K6.out.sz8 hi (ho6.less (base':=base) (Nat.le_trans K5.out.le (Nat.le_of_lt K5.out.lt))) (by rw [HS.out];rfl);have q7:=(World.cell?_of_block (a:=⟨kb,3,none⟩) (hg7.block kb (Nat.lt_of_lt_of_le hb5' hb6.size) HNE.out)).trans q6;have HST:=Qh hst7;have HG:=Qh hg7;have B6:=Qh (Q0b B5.out hb6 B5.out.size);clear ho6 hb6 hst7 hg7))
 all_goals (
  have hll:(Q0g (List.zipWith (· + ·) (Q0f l0) (Q3V n (Q6X t ds) n))).length=n:=by rw [Q0d,List.length_zipWith,Q0l,Q1p];omega
  have K7:=Qh (K6.out.turned HST.out HG.out K6.out.sz8 (fun z ys hz=>by
   unfold upd at hz
   by_cases he:z=h
   ·rw [if_pos he] at hz
    injection hz with hz
    subst hz he
    exact ⟨hll,hk1⟩
   ·rw [if_neg he] at hz
    exact K6.out.len z ys hz))
  have B7:=Qh (show Q1F kb mb w w7 from (Q1F.of_below B6.out).grown HG.out (.inr rfl))
  clear hlook hlook5 hm q5 q6 q7 HST HG B6 KR hc0 hct
  try dsimp only
  go_wp2_with fail
  exact HP.out _ _ ⟨rfl,⟨_,K7.out⟩,B7.out⟩)
theorem Z7J (h:Int) (l0:List Int) (x:F) (w:World) {base kb mb n t last sz:Nat} {S:Int->Option (List Int)} {V:Int->Value} (hk:Q1k w base kb mb n t last sz S V) (hi:I64 h) (hs:S h=some l0) (hsh:Shared n t (Q0f l0) x) (ht:t<=4) (htn:t+1<=n) (hn9:n<=9):
  Calls Tryz.prog 96 #[.pointer (some ⟨kb,0,none⟩),.int .i64 h] w fun e w'=>e= .returned (.tuple #[.int .u64 (ofF x),.int .i64 0])/\Below w.heap.size w w':=by
 have hl0:=(hk.len h l0 hs).1
 obtain ⟨Q,hQ,hQl,hQx⟩:=Q7H hsh htn
 have HQ:=Qh (show Interp (Q2X (shL l0)) Q by rw [Z5o,hl0];exact hQ)
 have HXE:=Qh (show Q9z t Q=ofF x/\Q9A t Q=0 from ⟨by unfold Q9z;rw [if_neg (by omega),hQx],by unfold Q9A;rw [if_neg (by omega)]⟩)
 have HCK:=Qh (Z9u ht (by omega) (by omega):Q0T t (shL l0)=0)
 clear hQ hQl hQx hsh
 have BA:=Qh (show Below w.heap.size w (w.alloc (.cells #[.int .i64 h] 3)) from (Below.refl w.heap.size w).alloc (Nat.le_refl _) _)
 have K1:=Qh (hk.below BA.out)
 have LI:=Qh (show Q0y (w.alloc (.cells #[.int .i64 h] 3)) (.slice (some ⟨w.heap.size,0,none⟩) 1 1) [h] from Q9o w [h] (by simp;exact hi) (by simp))
 have HTH:=Qh (show ([h].all fun h=>(S h).isSome)=true by rw [Q7O,hs];rfl)
 have HS:=Qh hs
 suffices hgoal: ∀Post:Ending->World->Prop,(∀e w',e= .returned (.tuple #[.int .u64 (ofF x),.int .i64 0])/\Below w.heap.size w w'->Post e w')->Calls Tryz.prog 96 #[.pointer (some ⟨kb,0,none⟩),.int .i64 h] w Post from hgoal _ fun e w' h=>h
 intro Post hpo
 have HP:=Qh hpo
 clear hpo hk hs
 go_enter Tryz.func96,Tryz.ntmps96
 go_wp2_with fail
 refine (Q2T _ [h] _ K1.out LI.out).mono ?_
 rintro e w' ⟨rfl,d,rfl⟩
 rw [HTH.out]
 replace K1:=Qh (K1.out.drewN d)
 replace BA:=Qh (below_drewN BA.out d)
 obtain ⟨w1,hw1⟩: ∃w1,w1=(w.alloc (.cells #[.int .i64 h] 3)).drewN d:=⟨_,rfl⟩
 rw [<-hw1] at K1 BA⊢
 clear hw1 LI
 try dsimp only
 have KR:=Qh (K1.out.store.rows h l0 HS.out)
 obtain ⟨gr,cr,hvr,hgr1,hgr2⟩:=Q1s KR.out.1 (by rw [hl0];omega)
 have KI:=Qh KR.out.is
 rw [hvr] at KI
 have HVR:=Qh hvr
 clear hvr hgr1 hgr2 KR
 go_wp2_with fail
 go_loopw [6,7] (fun v i wr=> ∃k:Nat,k<=n/\i= .int .i64 k/\Q0r wr w1.heap.size v (shL (l0.take k))/\Below w1.heap.size w1 wr) (fun _ i _=>n - (intOf i).toNat)
 case atStart=>exact ⟨0,Nat.zero_le _,rfl,Q0r.nil _ _,Below.refl _ _⟩
 case round=>
  obtain ⟨k,hk,rfl,hown,hbel⟩:=hrel
  have KO:=Qh hown
  have BEL:=Qh hbel
  have hsz:=hbel.size
  have KKr:=Qh (K1.out.below hbel)
  obtain ⟨hc0,hct,_,hm,_⟩:=KKr.out.cells
  clear hown hbel
  by_cases hlt:k<n
  ·have hlook:=KKr.out.store.look hi (by rw [HS.out];rfl)
   rw [HVR.out] at hlook
   obtain ⟨A,c,hA,_,_,_,hu,hr⟩:=KI.out.below BEL.out
   injection hA with hA1 hA2 hA3
   subst hA1 hA3
   obtain ⟨b1,o1,z,hbb,hb9,hgk,huz,hca⟩:=Q0O hr hu (show k<l0.length by omega)
   injection hbb with hbb
   injection hbb with hbb1 hbb2 _
   subst hbb1 hbb2
   rw [Nat.zero_add] at hca
   rw [hl0] at hlook
   have HT:=Qh (Z2L hgk)
   have HSL:=Qh (show (shL (l0.take k)).length=k by rw [Q6W,List.length_take];omega)
   clear hr hu hgk hb9 hA2
   go_wp2_with (at_builtin;go_loud (refine Q1Z rfl _ _ rfl w1.heap.size _ _ ((k:Int)+1) z wr.heap.size 1 rfl (KO.out.alloc _) rfl (Q2D _ _ _ _) (Q2E _ _ _ _) (by unfold I64;omega) huz (by rw [HSL.out];omega) (by rw [size_alloc];omega) ?_))
   intro v' w5 hown' hbel'
   rw [<-HT.out] at hown'
   have K5:=Qh hown'
   have B5:=Qh ((BEL.out.alloc hsz (.cells #[.int .i64 ((k:Int)+1),.int .u64 z] 71)).trans hbel')
   clear hown' hbel'
   go_wp2_with fail
   exact ⟨⟨k+1,by omega,by go_num,K5.out,B5.out⟩,by simp [intOf]<;>omega⟩
  ·obtain rfl:k=n:=by omega
   have HT:=Qh (show l0.take k=l0 from by rw [<-hl0];exact List.take_length)
   rw [HT.out] at KO
   go_wp2_with fail
   refine (Y2R t _ _ Q _ KO.out.is HCK.out HQ.out).mono ?_
   rintro e w9 ⟨rfl,hb9⟩
   rw [HXE.out.1,HXE.out.2]
   have B9:=Qh (Q0b BA.out (Q0b BEL.out hb9 hsz) BA.out.size)
   clear hb9
   try dsimp only
   go_wp2_with fail
   exact HP.out _ _ ⟨rfl,B9.out⟩
theorem Y2W (vd:Value) (ds:List Int) (w:World) {base kb mb n t last sz:Nat} {S:Int->Option (List Int)} {V:Int->Value} (hk:Q0G w base kb mb n t last sz S V) (h1:Q0h w vd ds) (hl:ds.length≠n * (t+1)) (ht:t<=4) (hn9:n<=9):
  Calls Tryz.prog 65 #[.pointer (some ⟨kb,0,none⟩),vd] w fun e w'=>e= .returned (.tuple #[.int .i64 0,.int .i64 1])/\Below w.heap.size w w':=by
 have KK:=Qh hk
 obtain ⟨A,c,rfl,hc1,hm1,hl1,hu1,hr1⟩:=h1
 obtain ⟨hc0,hct,_,hm,_⟩:=hk.cells
 have hkb:=hk.lt
 obtain ⟨m,hme⟩: ∃m,n * (t+1)=m:=⟨_,rfl⟩
 have hmul:(n:Int) * ((t:Int)+1)=(m:Int):=by rw [<-hme];simp
 have hmb:m<=45:=by rw [<-hme];exact Nat.le_trans (Nat.mul_le_mul hn9 (show t+1<=5 by omega)) (by omega)
 rw [hme] at hl
 have hne:((ds.length:Int) !=(m:Int))=true:=by rw [bne_iff_ne];omega
 clear hk hr1 hu1 hm1 hl hme
 go_enter Tryz.func65,Tryz.ntmps65
 go_wp2_with fail
 have BW:=Qh (((Below.refl w.heap.size w).alloc (Nat.le_refl _) (.cells #[.slice A ds.length c] 64)).alloc (by simp) (.cells #[.int .i64 ((t:Int)+1)] 3))
 have Q0:=Qh (show ((w.alloc (.cells #[.slice A ds.length c] 64)).alloc (.cells #[.int .i64 ((t:Int)+1)] 3)).cell? ⟨w.heap.size,0,none⟩=some (.slice A ds.length c) by
  rw [World.cell?_alloc_lt (a:=⟨w.heap.size,0,none⟩) (h:=by simp)]
  exact Q0o _ _ _)
 have Q1:=Qh (show ((w.alloc (.cells #[.slice A ds.length c] 64)).alloc (.cells #[.int .i64 ((t:Int)+1)] 3)).cell? ⟨w.heap.size+1,0,none⟩=some (.int .i64 ((t:Int)+1)) by
  have:=Q0o (w.alloc (.cells #[.slice A ds.length c] 64)) (.int .i64 ((t:Int)+1)) 3
  rw [size_alloc] at this
  exact this)
 obtain ⟨W3,hW3⟩: ∃W3,W3=(w.alloc (.cells #[.slice A ds.length c] 64)).alloc (.cells #[.int .i64 ((t:Int)+1)] 3):=⟨_,rfl⟩
 rw [<-hW3] at BW Q0 Q1⊢
 have KK3:=Qh (KK.out.below BW.out)
 clear hW3 hc0 hct hm
 obtain ⟨hc0,hct,_,hm,_⟩:=KK3.out.cells
 have hq0:=Q0.out
 have hq1:=Q1.out
 go_quiet (fail)
 go_wp2_with fail
 go_ret2
 exact ⟨rfl,below_drewN BW.out nq⟩
theorem Z4p (h:Int) (vd:Value) (ds l0:List Int) (w:World) {base kb mb n t last sz:Nat} {S:Int->Option (List Int)} {V:Int->Value} (hk:Q0G w base kb mb n t last sz S V) (hi:I64 h) (hs:S h=some l0) (hd:Q0h w vd ds) (hdl:ds.length≠n * t) (ht:t<=4) (hn9:n<=9):
  Calls Tryz.prog 67 #[.pointer (some ⟨kb,0,none⟩),.int .i64 h,vd] w fun e w'=>e= .returned (.int .i64 1)/\Below w.heap.size w w':=by
 have HTH:=Qh (show Q2y S [h]=0 from by rw [Q2I,if_pos (by simp [hs])])
 obtain ⟨A,c,rfl,hc1,hm1,hl1,hu1,hr1⟩:=hd
 obtain ⟨m,hme⟩: ∃m,n * t=m:=⟨_,rfl⟩
 have hmul:(n:Int) * (t:Int)=(m:Int):=by rw [<-hme];simp
 have hmb:m<=36:=by rw [<-hme];exact Nat.le_trans (Nat.mul_le_mul hn9 ht) (by omega)
 rw [hme] at hdl
 have hne:((ds.length:Int) !=(m:Int))=true:=by rw [bne_iff_ne];omega
 have BA:=Qh ((((Below.refl w.heap.size w).alloc (Nat.le_refl _) (.cells #[.pointer (some ⟨kb,0,none⟩)] 30)).alloc (by simp) (.cells #[.slice A ds.length c] 64)).alloc (by simp;omega) (.cells #[.int .i64 h] 3))
 have LI:=Qh (show Q0y (((w.alloc (.cells #[.pointer (some ⟨kb,0,none⟩)] 30)).alloc (.cells #[.slice A ds.length c] 64)).alloc (.cells #[.int .i64 h] 3)) (.slice (some ⟨w.heap.size+1+1,0,none⟩) 1 1) [h] from by
  have:=Q9o ((w.alloc (.cells #[.pointer (some ⟨kb,0,none⟩)] 30)).alloc (.cells #[.slice A ds.length c] 64)) [h] (by simp;exact hi) (by simp)
  rw [size_alloc,size_alloc] at this
  exact this)
 have Q0:=Qh (show (((w.alloc (.cells #[.pointer (some ⟨kb,0,none⟩)] 30)).alloc (.cells #[.slice A ds.length c] 64)).alloc (.cells #[.int .i64 h] 3)).cell? ⟨w.heap.size,0,none⟩=some (.pointer (some ⟨kb,0,none⟩)) by
  rw [World.cell?_alloc_lt (a:=⟨w.heap.size,0,none⟩) (h:=by simp;omega),World.cell?_alloc_lt (a:=⟨w.heap.size,0,none⟩) (h:=by simp)]
  exact Q0o _ _ _)
 have Q1:=Qh (show (((w.alloc (.cells #[.pointer (some ⟨kb,0,none⟩)] 30)).alloc (.cells #[.slice A ds.length c] 64)).alloc (.cells #[.int .i64 h] 3)).cell? ⟨w.heap.size+1,0,none⟩=some (.slice A ds.length c) by
  rw [World.cell?_alloc_lt (a:=⟨w.heap.size+1,0,none⟩) (h:=by simp)]
  have:=Q0o (w.alloc (.cells #[.pointer (some ⟨kb,0,none⟩)] 30)) (.slice A ds.length c) 64
  rw [size_alloc] at this
  exact this)
 have K1:=Qh (hk.below BA.out)
 clear hk hr1 hu1 hm1 hdl hme
 go_enter Tryz.func67,Tryz.ntmps67
 go_wp2_with fail
 refine (Q1D _ [h] _ K1.out LI.out).mono ?_
 rintro e w' ⟨rfl,rfl⟩
 rw [HTH.out]
 obtain ⟨w1,hw1⟩: ∃w1,w1=((w.alloc (.cells #[.pointer (some ⟨kb,0,none⟩)] 30)).alloc (.cells #[.slice A ds.length c] 64)).alloc (.cells #[.int .i64 h] 3):=⟨_,rfl⟩
 rw [<-hw1] at K1 BA Q0 Q1⊢
 clear hw1 LI
 obtain ⟨hc0,hct,_,hm,_⟩:=K1.out.cells
 have hq0:=Q0.out
 have hq1:=Q1.out
 try dsimp only
 go_wp2_with fail
 go_quiet (fail)
 go_wp2_with fail
 go_ret
 exact ⟨rfl,below_drewN BA.out nq⟩
theorem Y5J {w:World} {A B:Option Addr} {n c m d:Nat} (h:n<=17592186043904) (h2:m<=17592186043904):Y3X (w.alloc (.cells #[.slice A n c,.slice B m d] 64)) w.heap.size 0 [n,m]:=by
 refine ⟨by simp,fun j k hj=> ?_⟩
 match j,hj with
 |0,hj=>simp at hj;subst hj;exact ⟨A,c,by simp,h⟩
 |1,hj=>simp at hj;subst hj;exact ⟨B,d,by simp,h2⟩
theorem Z5E (t:Int) (va vb vd:Value) (xs ys ds:List Int) (w:World) (h1:Q0h w va xs) (h2:Q0h w vb ys) (h3:Q0h w vd ds) (ht:0<=t/\t<=4) (hw:Q8f [xs.length,ys.length]=true) (hx9:xs.length<=9) (hn: ¬((xs.length:Int)<2 * t+1)) (hd:(ds.length:Int)≠xs.length * t):
  Calls Tryz.prog 124 #[.int .i64 t,va,vb,vd] w fun e w'=>e= .returned (.tuple #[.slice none 0 0,.slice none 0 0,.int .i64 1])/\Below w.heap.size w w':=by
 obtain ⟨A1,c1,rfl,hc1,hm1,hl1,hu1,hr1⟩:=h1
 obtain ⟨A2,c2,rfl,hc2,hm2,hl2,hu2,hr2⟩:=h2
 obtain ⟨A3,c3,rfl,hc3,hm3,hl3,hu3,hr3⟩:=h3
 clear hu1 hr1 hm1 hu2 hr2 hm2 hu3 hr3 hm3
 obtain ⟨ht1,ht2⟩:=ht
 have hd1:decide (t<0)=false:=by simpa using ht1
 have hd2:decide (t>4)=false:=by simpa using ht2
 have HE:=Qh (show Q4E [xs.length,ys.length]=0 by unfold Q4E;rw [hw];rfl)
 have hd3:decide ((xs.length:Int)<2 * t+1)=false:=by simpa using hn
 obtain ⟨T,rfl⟩:=Int.eq_ofNat_of_zero_le ht1
 have hT:T<=4:=by omega
 have hnT:xs.length * T<=36:=Nat.mul_le_mul hx9 hT
 have hnT0:0<=(xs.length:Int) * (T:Int)/\(xs.length:Int) * (T:Int)<=36:=by rw [show (xs.length:Int) * (T:Int)=((xs.length * T:Nat):Int) by simp];omega
 have hdb:((ds.length:Int) !=(xs.length:Int) * (T:Int))=true:=by rw [bne_iff_ne];exact hd
 clear hw hd hn
 go_enter Tryz.func124,Tryz.ntmps124
 go_wp2_with fail
 refine (Q8g _ 0 _ _ _ _ (Y5J hl1 hl2) (by simp)).mono ?_
 rintro e w' ⟨rfl,rfl⟩
 rw [HE.out]
 try dsimp only
 go_wp2_with fail
 go_ret3
 exact ⟨rfl,(Below.refl _ _).alloc (Nat.le_refl _) _⟩
theorem Z2Y (g h:Int) (vd:Value) (ds l0 l1:List Int) (w:World) {base kb mb n t last sz:Nat} {S:Int->Option (List Int)} {V:Int->Value} (hk:Q0G w base kb mb n t last sz S V) (hi:I64 g) (hj:I64 h) (hs:S g=some l0) (ht0:S h=some l1) (hd:Q0h w vd ds) (hdl:ds.length≠n * t) (ht:t<=4) (hn2:2 * t+1<=n) (hn9:n<=9):
  Calls Tryz.prog 73 #[.pointer (some ⟨kb,0,none⟩),.int .i64 g,.int .i64 h,vd] w fun e w'=>e= .returned (.tuple #[.int .i64 0,.int .i64 1])/\Below w.heap.size w w':=by
 have hl0:=(hk.len g l0 hs).1
 have hl1:=(hk.len h l1 ht0).1
 have BA:=Qh (show Below w.heap.size w (w.alloc (.cells #[.int .i64 g,.int .i64 h] 3)) from (Below.refl w.heap.size w).alloc (Nat.le_refl _) _)
 have K1:=Qh (hk.below BA.out)
 have KD:=Qh (hd.below BA.out)
 have LI:=Qh (show Q0y (w.alloc (.cells #[.int .i64 g,.int .i64 h] 3)) (.slice (some ⟨w.heap.size,0,none⟩) 2 2) [g,h] from Q9o w [g,h] (by simp;exact ⟨hi,hj⟩) (by simp))
 have HTH:=Qh (show Q2y S [g,h]=0 from by rw [Q5p,if_pos (by simp [hs,ht0])])
 have HWB:=Qh (show Q8f [l0.length,l1.length]=true by simp [Q8f,hl0,hl1];omega)
 have HDL:=Qh (show (ds.length:Int)≠l0.length * t by rw [hl0];intro e;exact hdl (by exact_mod_cast e))
 suffices hgoal: ∀Post:Ending->World->Prop,(∀e w',e= .returned (.tuple #[.int .i64 0,.int .i64 1])/\Below w.heap.size w w'->Post e w')->Calls Tryz.prog 73 #[.pointer (some ⟨kb,0,none⟩),.int .i64 g,.int .i64 h,vd] w Post from hgoal _ fun e w' h=>h
 intro Post hpo
 have HP:=Qh hpo
 clear hpo hk hdl hd
 go_enter Tryz.func73,Tryz.ntmps73
 go_wp2_with fail
 refine (Q1D _ [g,h] _ K1.out LI.out).mono ?_
 rintro e w' ⟨rfl,rfl⟩
 rw [HTH.out]
 obtain ⟨w1,hw1⟩: ∃w1,w1=(w.alloc (.cells #[.int .i64 g,.int .i64 h] 3)):=⟨_,rfl⟩
 rw [<-hw1] at K1 BA KD⊢
 clear hw1 LI
 try dsimp only
 obtain ⟨_,hct,_,hm,_⟩:=K1.out.cells
 have hb1:=K1.out.le
 have hb2:=K1.out.lt
 have KQ:=Qh (K1.out.drewN 1)
 have hlook:(Instr.lookup 117 (.map (some mb)) (.int .i64 g) false).run Tryz.prog w1.drew= .ok (V g) w1.drew:=KQ.out.store.look hi (by rw [hs];rfl)
 have hlook2:(Instr.lookup 117 (.map (some mb)) (.int .i64 h) false).run Tryz.prog w1.drew= .ok (V h) w1.drew:=KQ.out.store.look hj (by rw [ht0];rfl)
 have KR:=Qh (KQ.out.store.rows g l0 hs)
 have KR2:=Qh (KQ.out.store.rows h l1 ht0)
 have KDQ:=Qh (KD.out.drewN 1)
 have C2:=Qh (Z5E t _ _ _ l0 l1 ds _ KR.out.is KR2.out.is KDQ.out (by omega) HWB.out (by omega) (by omega) HDL.out)
 go_wp2_with fail
 go_region_held3 (fun w'=>w'.cell? ⟨kb,1,none⟩=some (.int .i64 t)/\w'.cell? ⟨kb,3,none⟩=some (.map (some mb))) (go_keep) (first|(go_at_call 124;refine C2.out.mono ?_;rintro e w2 ⟨rfl,hb3⟩;have q0:=(hb3.cell (p:=⟨kb,1,none⟩) hb2).trans hct;have q1:=(hb3.cell (p:=⟨kb,3,none⟩) hb2).trans hm;have HB3:=Qh hb3;clear hb3))
 all_goals (
  have B2:=Qh (Q0b (below_drewN BA.out 1) HB3.out BA.out.size)
  clear hlook hlook2 hct hm q0 q1
  try dsimp only
  go_wp2_with fail
  exact HP.out _ _ ⟨rfl,B2.out⟩)
theorem Y2X (vd:Value) (ds:List Int) (w:World) {base kb mb n t last sz:Nat} {S:Int->Option (List Int)} {V:Int->Value} (hk:Q0G w base kb mb n t last sz S V) (h1:Q0h w vd ds) (hl:ds.length=n * (t+1)) (ht:t<=4) (hn9:n<=9) (htn:t+1<=n) (hlast:last<1000000):
  Calls Tryz.prog 65 #[.pointer (some ⟨kb,0,none⟩),vd] w fun e w'=>Q2L w base kb mb n t last sz S (Q0g (Q3V n (Q9F t ds) n)) e w':=by
 refine (Y2M vd ds w hk h1 hl ht hn9 htn hlast).mono fun e w' h=> ?_
 unfold Q2L
 by_cases h8:sz=8
 ·rw [if_pos h8] at h⊢
  exact ⟨h.1,⟨V,hk.below h.2⟩,Q1F.of_below h.2⟩
 ·rw [if_neg h8] at h⊢
  exact h
theorem Y2Y (n t:Int) (w:World) (h: ¬(0<=t/\t<=4/\1<=n/\n<=9/\2 * t+1<=n)):
  Calls Tryz.prog 61 #[.int .i64 n,.int .i64 t] w fun e w'=>e= .returned (.tuple #[.pointer none,.int .i64 1])/\w=w':=by
 by_cases h1:t<0
 ·have d1:decide (t<0)=true:=by simpa using h1
  go_enter Tryz.func61,Tryz.ntmps61
  go_wp2_with fail
  go_ret2
  exact ⟨rfl,rfl⟩
 ·have d1:decide (t<0)=false:=by simpa using h1
  by_cases h2:t>4
  ·have d2:decide (t>4)=true:=by simpa using h2
   go_enter Tryz.func61,Tryz.ntmps61
   go_wp2_with fail
   go_ret2
   exact ⟨rfl,rfl⟩
  ·have d2:decide (t>4)=false:=by simpa using h2
   by_cases h3:n<1
   ·have d3:decide (n<1)=true:=by simpa using h3
    go_enter Tryz.func61,Tryz.ntmps61
    go_wp2_with fail
    go_ret2
    exact ⟨rfl,rfl⟩
   ·have d3:decide (n<1)=false:=by simpa using h3
    by_cases h4:n>9
    ·have d4:decide (n>9)=true:=by simpa using h4
     go_enter Tryz.func61,Tryz.ntmps61
     go_wp2_with fail
     go_ret2
     exact ⟨rfl,rfl⟩
    ·have d4:decide (n>9)=false:=by simpa using h4
     have d5:decide (n<2 * t+1)=true:=by simp;omega
     go_enter Tryz.func61,Tryz.ntmps61
     go_wp2_with fail
     go_ret2
     exact ⟨rfl,rfl⟩
end Go.Proofs.YtploomncapiloaaGreatDoor
