/- Parts of the proof, put together by a program: DeskK RefC. No condition. -/
import Derived.Test.YtploomncapiloaaGreatDoorSAZ
set_option maxRecDepth 100000
set_option maxHeartbeats 8000000
namespace Go.Proofs.YtploomncapiloaaGreatDoor
open Go.RowKit Go.Sort Croft
def Z8F (KI:World->Q1J->Prop) (kb mb:Nat) (r:List UInt8×Q1J) (w:World) (e:Ending) (w':World):Prop:=
 ∃z E:Int,e= .returned (.tuple #[.int .i64 z,.int .i64 E])/\r.1=Q2G [z] E/\(0<=z/\z<=9223372036854775807)/\(0<=E/\E<=1000)/\KI w' r.2/\Q1F kb mb w w'
def Y5r (KI:World->Q1J->Prop) (kb mb:Nat) (r:List UInt8×Q1J) (w:World) (e:Ending) (w':World):Prop:=
 ∃E:Int,e= .returned (.int .i64 E)/\r.1=Z9b E/\(0<=E/\E<=1000)/\KI w' r.2/\Q1F kb mb w w'
def NumP (r:List UInt8×Q1J) (k:Q1J) (w:World) (e:Ending) (w':World):Prop:=
 ∃z E:Int,e= .returned (.tuple #[.int .u64 z,.int .i64 E])/\r=(Q2G [z] E,k)/\U64 z/\(0<=E/\E<=1000)/\Below w.heap.size w w'
def KI (base kb mb:Nat) (w:World) (k:Q1J):Prop:= ∃V,Q0G w base kb mb k.n k.t k.last k.sz k.S V
def RI (base kb mb:Nat) (w:World) (k:Q1J):Prop:= ∃V,Q1k w base kb mb k.n k.t k.last k.sz k.S V
theorem KI.below {base kb mb:Nat} {w w':World} {k:Q1J} (h:KI base kb mb w k) (hb:Below w.heap.size w w'):KI base kb mb w' k:=by
 obtain ⟨V,h⟩:=h;exact ⟨V,h.below hb⟩
theorem RI.below {base kb mb:Nat} {w w':World} {k:Q1J} (h:RI base kb mb w k) (hb:Below w.heap.size w w'):RI base kb mb w' k:=by
 obtain ⟨V,h⟩:=h;exact ⟨V,h.below hb⟩
section
variable {base kb mb:Nat} {k:Q1J} {w w':World} {e:Ending}
theorem Q8x {l:List Int} (h:Q2L w base kb mb k.n k.t k.last k.sz k.S l e w') (hl:k.last<=1000):Z8F (KI base kb mb) kb mb (Z3w k l) w e w':=by
 unfold Q2L at h
 unfold Z3w
 split at h
 ·next h8=>rw [if_pos h8];exact ⟨0,2,h.1,rfl,by omega,by omega,h.2.1,h.2.2⟩
 ·next h8=>rw [if_neg h8];exact ⟨_,0,h.1,rfl,by omega,by omega,h.2.1,h.2.2⟩
theorem Q9U {l:List Int} (h:Q2m w base kb mb k.n k.t k.last k.sz k.S l e w') (hl:k.last<=1000):Z8F (RI base kb mb) kb mb (Z3w k l) w e w':=by
 unfold Q2m at h
 unfold Z3w
 split at h
 ·next h8=>rw [if_pos h8];exact ⟨0,2,h.1,rfl,by omega,by omega,h.2.1,h.2.2⟩
 ·next h8=>rw [if_neg h8];exact ⟨_,0,h.1,rfl,by omega,by omega,h.2.1,h.2.2⟩
theorem Z8F.err {Q:World->Q1J->Prop} {E:Int} {r:List UInt8×Q1J} (hr:r=(Q2h E,k)) (hE:1<=E) (hE2:E<=1000) (he:e= .returned (.tuple #[.int .i64 0,.int .i64 E])) (hq:Q w' k) (hb:Below w.heap.size w w'):Z8F Q kb mb r w e w':=
 ⟨0,E,he,by rw [hr];exact (if_neg (by omega)).symm,by omega,by omega,by rw [hr];exact hq,.of_below hb⟩
theorem Y5r.err {Q:World->Q1J->Prop} {E:Int} {r:List UInt8×Q1J} (hr:r=(Q2h E,k)) (hE:1<=E) (hE2:E<=1000) (he:e= .returned (.int .i64 E)) (hq:Q w' k) (hb:Below w.heap.size w w'):Y5r Q kb mb r w e w':=
 ⟨E,he,by rw [hr];exact (if_neg (by omega)).symm,by omega,by rw [hr];exact hq,.of_below hb⟩
theorem Q1Y {S:Int->Option (List Int)} {z:Int} (h:S z=none): ¬(S z).isSome=true:=by rw [h];simp
theorem Y0A (vd:Value) (ds:List Int) (w:World) (hk:KI base kb mb w k) (h1:Q0h w vd ds) (ho:k.Ok 1000):
  Calls Tryz.prog 65 #[.pointer (some ⟨kb,0,none⟩),vd] w fun e w'=>Z8F (KI base kb mb) kb mb (Z5P ds k) w e w':=by
 obtain ⟨h4,h9,h2,hl,_⟩:=ho
 obtain ⟨V,hv⟩:=id hk
 by_cases hd:ds.length=k.n * (k.t+1)
 ·rw [show Z5P ds k=_ from if_pos hd]
  exact (Y2X vd ds w hv h1 hd h4 h9 (by omega) (by omega)).mono fun e w' h=>Q8x h hl
 ·exact (Y2W vd ds w hv h1 hd h4 h9).mono fun e w' h=> .err (if_neg hd) (by omega) (by omega) h.1 (hk.below h.2) h.2
theorem Y3t (vd:Value) (ds:List Int) (w:World) (hk:RI base kb mb w k) (h1:Q0h w vd ds) (ho:k.Ok 1000):
  Calls Tryz.prog 91 #[.pointer (some ⟨kb,0,none⟩),vd] w fun e w'=>Z8F (RI base kb mb) kb mb (Z5P ds k) w e w':=by
 obtain ⟨h4,h9,h2,hl,_⟩:=ho
 obtain ⟨V,hv⟩:=id hk
 by_cases hd:ds.length=k.n * (k.t+1)
 ·rw [show Z5P ds k=_ from if_pos hd]
  exact (Y5b vd ds w hv h1 hd h4 h9 (by omega)).mono fun e w' h=>Q9U h hl
 ·exact (Y2U vd ds w hv h1 hd h4 h9).mono fun e w' h=> .err (if_neg hd) (by omega) (by omega) h.1 (hk.below h.2) h.2
theorem Z3g (h:Int) (vd:Value) (ds:List Int) (w:World) (hk:KI base kb mb w k) (hi:I64 h) (h1:Q0h w vd ds) (ho:k.Ok 1000):
  Calls Tryz.prog 67 #[.pointer (some ⟨kb,0,none⟩),.int .i64 h,vd] w fun e w'=>Y5r (KI base kb mb) kb mb (Q1v h ds k) w e w':=by
 obtain ⟨h4,h9,h2,hl,_⟩:=ho
 obtain ⟨V,hv⟩:=id hk
 cases hs:k.S h with
 |none=>
  obtain ⟨A1,c1,rfl,_⟩:=h1
  exact (Z2T h A1 _ c1 w hv hi (Q1Y hs)).mono fun e w' q=> .err (by unfold Q1v;rw [hs]) (by omega) (by omega) q.1 (hk.below q.2) q.2
 |some l0=>
  by_cases hd:ds.length=k.n * k.t
  ·rw [show Q1v h ds k=(okT,⟨k.n,k.t,k.last,k.sz,upd k.S h (some (Q0g (List.zipWith (· + ·) (Q0f l0) (Q3V k.n (Q6X k.t ds) k.n))))⟩) by unfold Q1v;rw [hs];exact if_pos hd]
   exact (Z5v h vd ds l0 w hv hi hs h1 hd h4 (by omega) h9).mono fun e w' q=>⟨0,q.1,rfl,by omega,q.2.1,q.2.2⟩
  ·exact (Z4p h vd ds l0 w hv hi hs h1 hd h4 h9).mono fun e w' q=> .err (by unfold Q1v;rw [hs];exact if_neg hd) (by omega) (by omega) q.1 (hk.below q.2) q.2
theorem Z4A (h:Int) (vd:Value) (ds:List Int) (w:World) (hk:RI base kb mb w k) (hi:I64 h) (h1:Q0h w vd ds) (ho:k.Ok 1000):
  Calls Tryz.prog 93 #[.pointer (some ⟨kb,0,none⟩),.int .i64 h,vd] w fun e w'=>Y5r (RI base kb mb) kb mb (Q1v h ds k) w e w':=by
 obtain ⟨h4,h9,h2,hl,_⟩:=ho
 obtain ⟨V,hv⟩:=id hk
 cases hs:k.S h with
 |none=>exact (Z2V h vd w hv hi (Q1Y hs)).mono fun e w' q=> .err (by unfold Q1v;rw [hs]) (by omega) (by omega) q.1 (hk.below q.2) q.2
 |some l0=>
  by_cases hd:ds.length=k.n * k.t
  ·rw [show Q1v h ds k=(okT,⟨k.n,k.t,k.last,k.sz,upd k.S h (some (Q0g (List.zipWith (· + ·) (Q0f l0) (Q3V k.n (Q6X k.t ds) k.n))))⟩) by unfold Q1v;rw [hs];exact if_pos hd]
   exact (Z5D h vd ds l0 w hv hi hs h1 hd h4 h9).mono fun e w' q=>⟨0,q.1,rfl,by omega,q.2.1,q.2.2⟩
  ·exact (Z4o h vd ds l0 w hv hi hs h1 hd h4 h9).mono fun e w' q=> .err (by unfold Q1v;rw [hs];exact if_neg hd) (by omega) (by omega) q.1 (hk.below q.2) q.2
theorem Z5S (h x:Int) (w:World) (hk:KI base kb mb w k) (hi:I64 h) (hx:U64 x) (ho:k.Ok 1000):
  Calls Tryz.prog 69 #[.pointer (some ⟨kb,0,none⟩),.int .i64 h,.int .u64 x] w fun e w'=>Z8F (KI base kb mb) kb mb (Q3u h x k) w e w':=by
 obtain ⟨h4,h9,h2,hl,_⟩:=ho
 obtain ⟨V,hv⟩:=id hk
 cases hs:k.S h with
 |none=>exact (Z5t h x w hv hi (Q1Y hs)).mono fun e w' q=> .err (by unfold Q3u;rw [hs]) (by omega) (by omega) q.1 (hk.below q.2) q.2
 |some l0=>
  rw [show Q3u h x k=Z3w k (l0.map fun y=>ofF (toF y+toF x)) by unfold Q3u;rw [hs]]
  exact (Z9O h x l0 w hv hi hs hx (by omega) h9 (by omega)).mono fun e w' q=>Q8x q hl
theorem Z7Y (h x:Int) (w:World) (hk:RI base kb mb w k) (hi:I64 h) (hx:U64 x) (ho:k.Ok 1000):
  Calls Tryz.prog 94 #[.pointer (some ⟨kb,0,none⟩),.int .i64 h,.int .i64 h,.int .u64 1,.int .u64 0,.int .u64 x] w fun e w'=>Z8F (RI base kb mb) kb mb (Q3u h x k) w e w':=by
 obtain ⟨h4,h9,h2,hl,_⟩:=ho
 obtain ⟨V,hv⟩:=id hk
 cases hs:k.S h with
 |none=>exact (Q5Q h h 1 0 x w hv hi hi (fun q=>Q1Y hs q.1)).mono fun e w' q=> .err (by unfold Q3u;rw [hs]) (by omega) (by omega) q.1 (hk.below q.2) q.2
 |some l0=>
  rw [show Q3u h x k=Z3w k (l0.map fun y=>ofF (toF y+toF x)) by unfold Q3u;rw [hs]]
  have q:=Z0U h h 1 0 x l0 l0 w hv hi hi hs hs ⟨by omega,by omega⟩ ⟨by omega,by omega⟩ hx (by omega)
  rw [Z5C] at q
  exact q.mono fun e w' q=>Q9U q hl
theorem Z3h (g h x y:Int) (w:World) (hk:KI base kb mb w k) (hi:I64 g) (hj:I64 h) (hx:U64 x) (hy:U64 y) (ho:k.Ok 1000):
  Calls Tryz.prog 71 #[.pointer (some ⟨kb,0,none⟩),.int .i64 g,.int .i64 h,.int .u64 x,.int .u64 y] w fun e w'=>Z8F (KI base kb mb) kb mb (Q1w g h x y k) w e w':=by
 obtain ⟨h4,h9,h2,hl,_⟩:=ho
 obtain ⟨V,hv⟩:=id hk
 cases hs:k.S g with
 |none=>exact (Q8r g h x y w hv hi hj (fun q=>Q1Y hs q.1)).mono fun e w' q=> .err (by unfold Q1w;rw [hs]) (by omega) (by omega) q.1 (hk.below q.2) q.2
 |some l0=>
  cases hs2:k.S h with
  |none=>exact (Q8r g h x y w hv hi hj (fun q=>Q1Y hs2 q.2)).mono fun e w' q=> .err (by unfold Q1w;rw [hs,hs2]) (by omega) (by omega) q.1 (hk.below q.2) q.2
  |some l1=>
   rw [show Q1w g h x y k=Z3w k (Q8H (· + ·) (l0.map fun z=>ofF (toF z * toF x)) (l1.map fun z=>ofF (toF z * toF y))) by unfold Q1w;rw [hs,hs2]]
   exact (Z5u g h x y l0 l1 w hv hi hj hs hs2 hx hy (by omega) h9 (by omega)).mono fun e w' q=>Q8x q hl
theorem Z4B (g h x y:Int) (w:World) (hk:RI base kb mb w k) (hi:I64 g) (hj:I64 h) (hx:U64 x) (hy:U64 y) (ho:k.Ok 1000):
  Calls Tryz.prog 94 #[.pointer (some ⟨kb,0,none⟩),.int .i64 g,.int .i64 h,.int .u64 x,.int .u64 y,.int .u64 0] w fun e w'=>Z8F (RI base kb mb) kb mb (Q1w g h x y k) w e w':=by
 obtain ⟨h4,h9,h2,hl,_⟩:=ho
 obtain ⟨V,hv⟩:=id hk
 cases hs:k.S g with
 |none=>exact (Q5Q g h x y 0 w hv hi hj (fun q=>Q1Y hs q.1)).mono fun e w' q=> .err (by unfold Q1w;rw [hs]) (by omega) (by omega) q.1 (hk.below q.2) q.2
 |some l0=>
  cases hs2:k.S h with
  |none=>exact (Q5Q g h x y 0 w hv hi hj (fun q=>Q1Y hs2 q.2)).mono fun e w' q=> .err (by unfold Q1w;rw [hs,hs2]) (by omega) (by omega) q.1 (hk.below q.2) q.2
  |some l1=>
   rw [show Q1w g h x y k=Z3w k (Q8H (· + ·) (l0.map fun z=>ofF (toF z * toF x)) (l1.map fun z=>ofF (toF z * toF y))) by unfold Q1w;rw [hs,hs2]]
   have q:=Z0U g h x y 0 l0 l1 w hv hi hj hs hs2 hx hy ⟨by omega,by omega⟩ (by omega)
   rw [Z2W] at q
   exact q.mono fun e w' q=>Q9U q hl
theorem Z1S (g h:Int) (vd:Value) (ds:List Int) (w:World) (hk:KI base kb mb w k) (hi:I64 g) (hj:I64 h) (h1:Q0h w vd ds) (ho:k.Ok 1000):
  Calls Tryz.prog 73 #[.pointer (some ⟨kb,0,none⟩),.int .i64 g,.int .i64 h,vd] w fun e w'=>Z8F (KI base kb mb) kb mb (Q0Z g h ds k) w e w':=by
 obtain ⟨h4,h9,h2,hl,_⟩:=ho
 obtain ⟨V,hv⟩:=id hk
 cases hs:k.S g with
 |none=>exact (Q7r g h vd w hv hi hj (fun q=>Q1Y hs q.1)).mono fun e w' q=> .err (by unfold Q0Z;rw [hs]) (by omega) (by omega) q.1 (hk.below q.2) q.2
 |some l0=>
  cases hs2:k.S h with
  |none=>exact (Q7r g h vd w hv hi hj (fun q=>Q1Y hs2 q.2)).mono fun e w' q=> .err (by unfold Q0Z;rw [hs,hs2]) (by omega) (by omega) q.1 (hk.below q.2) q.2
  |some l1=>
   by_cases hd:ds.length=k.n * k.t
   ·rw [show Q0Z g h ds k=Z3w k (Q0g (Q2d k.n k.t (Q0f l0) (Q0f l1) (Q0f ds))) by unfold Q0Z;rw [hs,hs2];exact if_pos hd]
    exact (Z4i g h vd ds l0 l1 w hv hi hj hs hs2 h1 hd h4 h2 h9 (by omega)).mono fun e w' q=>Q8x q hl
   ·exact (Z2Y g h vd ds l0 l1 w hv hi hj hs hs2 h1 hd h4 h2 h9).mono fun e w' q=> .err (by unfold Q0Z;rw [hs,hs2];exact if_neg hd) (by omega) (by omega) q.1 (hk.below q.2) q.2
theorem Z3i (g h:Int) (vd:Value) (ds:List Int) (w:World) (hk:RI base kb mb w k) (hi:I64 g) (hj:I64 h) (h1:Q0h w vd ds) (ho:k.Ok 1000):
  Calls Tryz.prog 95 #[.pointer (some ⟨kb,0,none⟩),.int .i64 g,.int .i64 h,vd] w fun e w'=>Z8F (RI base kb mb) kb mb (Q0Z g h ds k) w e w':=by
 obtain ⟨h4,h9,h2,hl,_⟩:=ho
 obtain ⟨V,hv⟩:=id hk
 cases hs:k.S g with
 |none=>exact (Q7s g h vd w hv hi hj (fun q=>Q1Y hs q.1)).mono fun e w' q=> .err (by unfold Q0Z;rw [hs]) (by omega) (by omega) q.1 (hk.below q.2) q.2
 |some l0=>
  cases hs2:k.S h with
  |none=>exact (Q7s g h vd w hv hi hj (fun q=>Q1Y hs2 q.2)).mono fun e w' q=> .err (by unfold Q0Z;rw [hs,hs2]) (by omega) (by omega) q.1 (hk.below q.2) q.2
  |some l1=>
   by_cases hd:ds.length=k.n * k.t
   ·rw [show Q0Z g h ds k=Z3w k (Q0g (Q2d k.n k.t (Q0f l0) (Q0f l1) (Q0f ds))) by unfold Q0Z;rw [hs,hs2];exact if_pos hd]
    exact (Z4n g h vd ds l0 l1 w hv hi hj hs hs2 h1 hd h4 (by omega) h9 (by omega)).mono fun e w' q=>Q9U q hl
   ·exact (Z2X g h vd ds l0 l1 w hv hi hj hs hs2 h1 hd h4 h9).mono fun e w' q=> .err (by unfold Q0Z;rw [hs,hs2];exact if_neg hd) (by omega) (by omega) q.1 (hk.below q.2) q.2
theorem Z5T {l0:List Int} {h:Int} (hs:k.S h=some l0) {m:Nat} (ho:k.Ok m): ∃x,Shared k.n k.t (Q0f l0) x/\Y5g k.n k.t l0=ofF x:=by
 obtain ⟨X,hX⟩:=ho.2.2.2.2
 have hx: ∃x,Shared k.n k.t (Q0f l0) x:=⟨_,hX _ _ hs⟩
 exact ⟨_,Classical.choose_spec hx,dif_pos hx⟩
theorem Y0B (h:Int) (w:World) (hk:KI base kb mb w k) (hi:I64 h) (ho:k.Ok 1000):
  Calls Tryz.prog 75 #[.pointer (some ⟨kb,0,none⟩),.int .i64 h] w fun e w'=>NumP (Z4y h k) k w e w':=by
 obtain ⟨V,hv⟩:=id hk
 cases hs:k.S h with
 |none=>exact (Z7C h w hv hi (Q1Y hs)).mono fun e w' q=>⟨0,4,q.1,by unfold Z4y;rw [hs];rfl,⟨by omega,by omega⟩,by omega,q.2⟩
 |some l0=>
  obtain ⟨x,hx,he⟩:=Z5T hs ho
  obtain ⟨h4,h9,h2,hl,_⟩:=ho
  exact (Y2N h l0 x w hv hi hs hx h4 (by omega) h9).mono fun e w' q=>⟨_,0,q.1,by unfold Z4y;rw [hs];dsimp only;rw [he],U64.of_ofF _,by omega,q.2⟩
theorem Y3u (h:Int) (w:World) (hk:RI base kb mb w k) (hi:I64 h) (ho:k.Ok 1000):
  Calls Tryz.prog 96 #[.pointer (some ⟨kb,0,none⟩),.int .i64 h] w fun e w'=>NumP (Z4y h k) k w e w':=by
 obtain ⟨V,hv⟩:=id hk
 cases hs:k.S h with
 |none=>exact (Z7I h w hv hi (Q1Y hs)).mono fun e w' q=>⟨0,4,q.1,by unfold Z4y;rw [hs];rfl,⟨by omega,by omega⟩,by omega,q.2⟩
 |some l0=>
  obtain ⟨x,hx,he⟩:=Z5T hs ho
  obtain ⟨h4,h9,h2,hl,_⟩:=ho
  exact (Z7J h l0 x w hv hi hs hx h4 (by omega) h9).mono fun e w' q=>⟨_,0,q.1,by unfold Z4y;rw [hs];dsimp only;rw [he],U64.of_ofF _,by omega,q.2⟩
theorem Z7Z (h:Int) (w:World) (hk:KI base kb mb w k) (hi:I64 h):
  Calls Tryz.prog 77 #[.pointer (some ⟨kb,0,none⟩),.int .i64 h] w fun e w'=>Y5r (KI base kb mb) kb mb (Q5S h k) w e w':=by
 obtain ⟨V,hv⟩:=id hk
 cases hs:k.S h with
 |none=>exact (Z7D h w hv hi (Q1Y hs)).mono fun e w' q=> .err (by unfold Q5S;rw [hs]) (by omega) (by omega) q.1 (hk.below q.2) q.2
 |some l0=>
  rw [show Q5S h k=(okT,⟨k.n,k.t,k.last,k.sz - 1,upd k.S h none⟩) by unfold Q5S;rw [hs]]
  exact (Y2O h l0 w hv hi hs).mono fun e w' q=>⟨0,q.1,rfl,by omega,⟨_,q.2.1⟩,q.2.2⟩
theorem Y0C (h:Int) (w:World) (hk:RI base kb mb w k) (hi:I64 h):
  Calls Tryz.prog 97 #[.pointer (some ⟨kb,0,none⟩),.int .i64 h] w fun e w'=>Y5r (RI base kb mb) kb mb (Q5S h k) w e w':=by
 obtain ⟨V,hv⟩:=id hk
 cases hs:k.S h with
 |none=>exact (Z7H h w hv hi (Q1Y hs)).mono fun e w' q=> .err (by unfold Q5S;rw [hs]) (by omega) (by omega) q.1 (hk.below q.2) q.2
 |some l0=>
  rw [show Q5S h k=(okT,⟨k.n,k.t,k.last,k.sz - 1,upd k.S h none⟩) by unfold Q5S;rw [hs]]
  exact (Y2V h l0 w hv hi hs).mono fun e w' q=>⟨0,q.1,rfl,by omega,⟨_,q.2.1⟩,q.2.2⟩
end
end Go.Proofs.YtploomncapiloaaGreatDoor
namespace Go.Proofs.YtploomncapiloaaGreatDoor
open Go.RowKit Croft
theorem Z1h (v:Value) (gs:List Gt) (os:List Int) (w:World) (h:Q1m w v gs os):
  Calls Tryz.prog 130 #[v] w fun e w'=>e= .returned (.int .i64 (Q0U gs os))/\Below w.heap.size w w':=by
 obtain ⟨vg,vo,rfl,hg,ho⟩:=h
 have KG:=Qh hg
 have KO:=Qh ho
 obtain ⟨A1,c1,rfl,hc1,hm1,hl1,hu1,hr1⟩:=hg
 obtain ⟨A2,c2,rfl,hc2,hm2,hl2,hu2,hr2⟩:=ho
 have BB:=Qh ((Below.refl w.heap.size w).alloc (Nat.le_refl _) (.cells #[.slice A1 gs.length c1,.slice A2 os.length c2] 85))
 have hl1':gs.length<=17592186043904:=by omega
 suffices hgoal: ∀Post:Ending->World->Prop,(∀w',Below w.heap.size w w'->Post (.returned (.int .i64 (Q0U gs os))) w')->Calls Tryz.prog 130 #[.agg #[.slice A1 gs.length c1,.slice A2 os.length c2]] w Post from hgoal _ fun w' h=>⟨rfl,h⟩
 intro Post hpo
 have HP:=Qh hpo
 clear hu1 hr1 hm1 hu2 hr2 hm2 hpo
 by_cases g0:gs.length=0
 ·have HE:=Qh (show Q0U gs os=1 by unfold Q0U;rw [if_pos (.inl g0)])
  have b0:((gs.length:Int)==0)=true:=by rw [beq_iff_eq];omega
  have G0:=Qh g0
  clear g0
  rw [HE.out] at HP
  go_enter Tryz.func130,Tryz.ntmps130
  go_wp2_with fail
  exact HP.out _ BB.out
 have b0:((gs.length:Int)==0)=false:=by rw [beq_eq_false_iff_ne];omega
 by_cases o0:os.length=0
 ·have HE:=Qh (show Q0U gs os=1 by unfold Q0U;rw [if_pos (.inr o0)])
  have b1:((os.length:Int)==0)=true:=by rw [beq_iff_eq];omega
  have O0:=Qh o0
  clear o0 g0
  rw [HE.out] at HP
  go_enter Tryz.func130,Tryz.ntmps130
  go_wp2_with fail
  exact HP.out _ BB.out
 have b1:((os.length:Int)==0)=false:=by rw [beq_eq_false_iff_ne];omega
 by_cases g3:30<gs.length
 ·have HE:=Qh (show Q0U gs os=2 by unfold Q0U;rw [if_neg (by omega),if_pos (.inl g3)])
  have b2:(gs.length:Int)>30:=by omega
  clear g0 o0
  rw [HE.out] at HP
  go_enter Tryz.func130,Tryz.ntmps130
  go_wp2_with fail
  exact HP.out _ BB.out
 have b2: ¬(gs.length:Int)>30:=by omega
 by_cases o3:30<os.length
 ·have HE:=Qh (show Q0U gs os=2 by unfold Q0U;rw [if_neg (by omega),if_pos (.inr o3)])
  have b3:(os.length:Int)>30:=by omega
  clear g0 o0 g3
  rw [HE.out] at HP
  go_enter Tryz.func130,Tryz.ntmps130
  go_wp2_with fail
  exact HP.out _ BB.out
 have b3: ¬(os.length:Int)>30:=by omega
 have HE:=Qh (show Q0U gs os=if Q5h gs gs.length=true then if Z3G gs os=true then 0 else 1 else 1 by unfold Q0U;rw [if_neg (by omega),if_neg (by omega)])
 have hgl:gs.length<=30:=by omega
 have hol:os.length<=30:=by omega
 clear g0 o0 g3 o3
 have BX0:=Qh (Box.new w 85 [.slice A1 gs.length c1,.slice A2 os.length c2])
 go_enter Tryz.func130,Tryz.ntmps130
 go_wp2_with fail
 go_loopw [3] (fun i wr=> ∃k:Nat,k<=gs.length/\i= .int .i64 k/\Q5h gs k=true/\Box wr w.heap.size 85 [.slice A1 gs.length c1,.slice A2 os.length c2]/\Below w.heap.size w wr) (fun i _=>gs.length - (intOf i).toNat)
 case atStart=>exact ⟨0,Nat.zero_le _,rfl,rfl,BX0.out,BB.out⟩
 case round=>
  obtain ⟨k,hk,rfl,hok,hbox,hbel⟩:=hrel
  have HOK:=Qh hok
  have KB:=Qh hbox
  have BEL:=Qh hbel
  have hsz:=hbel.size
  have hc0:=hbox.cell (i:=0) rfl
  have hc1':=hbox.cell (i:=1) rfl
  clear hok hbox hbel
  by_cases hlt:k<gs.length
  ·obtain ⟨A,c,hA,_,_,_,hu,hr⟩:=(KG.out.below BEL.out)
   injection hA with hA1 hA2 hA3
   subst hA1 hA3
   obtain ⟨b1',o1,⟨kd,a,b,n⟩,rfl,hb1,hgk,hgo,ha1,ha2,ha3,ha4⟩:=Q2V hr hu hlt
   dsimp only at ha1 ha2 ha3 ha4
   have HS:=Qh (show Q5h gs (k+1)=Q0u ⟨kd,a,b,n⟩ k by rw [Q5h,HOK.out,hgk];rfl)
   have HBAD:=Qh (show Q0u ⟨kd,a,b,n⟩ k=false->Q0U gs os=1 from fun hf=>by
    rw [HE.out,if_neg (fun h=> ?_)]
    have:=(Q6N gs gs.length).1 h k _ hlt hgk
    rw [hf] at this;cases this)
   have B5:=Qh (fun a b n=>BEL.out.alloc hsz (.cells #[.int .i64 kd,.int .i64 a,.int .i64 b,.int .u64 n] 133))
   have K5:=Qh (fun a b n=>KB.out.alloc (.cells #[.int .i64 kd,.int .i64 a,.int .i64 b,.int .u64 n] 133))
   clear hr hu hgk hb1 hgo hA2
   have hklt:(k:Int) - 1<30:=by omega
   by_cases hk1:kd=1
   ·subst hk1
    go_wp2_with fail
    refine (Q1N _ _ _ _).mono ?_
    rintro e w' ⟨rfl,rfl⟩
    by_cases q0:1<=a/\a<=9
    ·rw [show decide (1<=a/\a<=9)=true from decide_eq_true q0]
     try dsimp only
     by_cases q1:b=0
     ·have hq1:(b==0)=true:=by rw [beq_iff_eq];exact q1
      by_cases q2:n=0
      ·have hq2:(n==0)=true:=by rw [beq_iff_eq];exact q2
       have HG:=Qh (show Q0u ⟨1,a,b,n⟩ k=true by simp [Q0u];omega)
       clear q0
       go_wp2_with fail
       exact ⟨⟨k+1,by omega,by go_num,by rw [HS.out];exact HG.out,K5.out _ _ _,B5.out _ _ _⟩,by simp [intOf]<;>omega⟩
      ·have hq2:(n==0)=false:=by rw [beq_eq_false_iff_ne];exact q2
       have HG:=Qh (show Q0u ⟨1,a,b,n⟩ k=false by simp [Q0u];omega)
       go_wp2_with fail
       have hp:=HP.out
       rw [HBAD.out HG.out] at hp
       exact hp _ (B5.out _ _ _)
     ·have hq1:(b==0)=false:=by rw [beq_eq_false_iff_ne];exact q1
      have HG:=Qh (show Q0u ⟨1,a,b,n⟩ k=false by simp [Q0u];omega)
      go_wp2_with fail
      have hp:=HP.out
      rw [HBAD.out HG.out] at hp
      exact hp _ (B5.out _ _ _)
    ·rw [show decide (1<=a/\a<=9)=false from decide_eq_false q0]
     try dsimp only
     have HG:=Qh (show Q0u ⟨1,a,b,n⟩ k=false by simp [Q0u];omega)
     clear q0
     go_wp2_with fail
     have hp:=HP.out
     rw [HBAD.out HG.out] at hp
     exact hp _ (B5.out _ _ _)
   by_cases hk2:kd=2
   ·subst hk2
    by_cases q0:a=0
    ·have hq0:(a==0)=true:=by rw [beq_iff_eq];exact q0
     by_cases q1:b=0
     ·have hq1:(b==0)=true:=by rw [beq_iff_eq];exact q1
      have HG:=Qh (show Q0u ⟨2,a,b,n⟩ k=true by simp [Q0u];omega)
      go_wp2_with fail
      exact ⟨⟨k+1,by omega,by go_num,by rw [HS.out];exact HG.out,K5.out _ _ _,B5.out _ _ _⟩,by simp [intOf]<;>omega⟩
     ·have hq1:(b==0)=false:=by rw [beq_eq_false_iff_ne];exact q1
      have HG:=Qh (show Q0u ⟨2,a,b,n⟩ k=false by simp [Q0u];omega)
      go_wp2_with fail
      have hp:=HP.out
      rw [HBAD.out HG.out] at hp
      exact hp _ (B5.out _ _ _)
    ·have hq0:(a==0)=false:=by rw [beq_eq_false_iff_ne];exact q0
     have HG:=Qh (show Q0u ⟨2,a,b,n⟩ k=false by simp [Q0u];omega)
     go_wp2_with fail
     have hp:=HP.out
     rw [HBAD.out HG.out] at hp
     exact hp _ (B5.out _ _ _)
   by_cases hk3:kd=3
   ·subst hk3
    go_wp2_with fail
    refine (Q1N _ _ _ _).mono ?_
    rintro e w' ⟨rfl,rfl⟩
    by_cases q0:0<=a/\a<=(k:Int) - 1
    ·rw [show decide (0<=a/\a<=(k:Int) - 1)=true from decide_eq_true q0]
     try dsimp only
     go_wp2_with fail
     refine (Q1N _ _ _ _).mono ?_
     rintro e w' ⟨rfl,rfl⟩
     by_cases q1:0<=b/\b<=(k:Int) - 1
     ·rw [show decide (0<=b/\b<=(k:Int) - 1)=true from decide_eq_true q1]
      try dsimp only
      by_cases q2:n=0
      ·have hq2:(n==0)=true:=by rw [beq_iff_eq];exact q2
       have HG:=Qh (show Q0u ⟨3,a,b,n⟩ k=true by simp [Q0u,Q0H];omega)
       clear q0 q1
       go_wp2_with fail
       exact ⟨⟨k+1,by omega,by go_num,by rw [HS.out];exact HG.out,K5.out _ _ _,B5.out _ _ _⟩,by simp [intOf]<;>omega⟩
      ·have hq2:(n==0)=false:=by rw [beq_eq_false_iff_ne];exact q2
       have HG:=Qh (show Q0u ⟨3,a,b,n⟩ k=false by simp [Q0u,Q0H];omega)
       go_wp2_with fail
       have hp:=HP.out
       rw [HBAD.out HG.out] at hp
       exact hp _ (B5.out _ _ _)
     ·rw [show decide (0<=b/\b<=(k:Int) - 1)=false from decide_eq_false q1]
      try dsimp only
      have HG:=Qh (show Q0u ⟨3,a,b,n⟩ k=false by simp [Q0u,Q0H];omega)
      clear q1
      go_wp2_with fail
      have hp:=HP.out
      rw [HBAD.out HG.out] at hp
      exact hp _ (B5.out _ _ _)
    ·rw [show decide (0<=a/\a<=(k:Int) - 1)=false from decide_eq_false q0]
     try dsimp only
     have HG:=Qh (show Q0u ⟨3,a,b,n⟩ k=false by simp [Q0u,Q0H];omega)
     clear q0
     go_wp2_with fail
     have hp:=HP.out
     rw [HBAD.out HG.out] at hp
     exact hp _ (B5.out _ _ _)
   by_cases hk4:kd=4
   ·subst hk4
    go_wp2_with fail
    refine (Q1N _ _ _ _).mono ?_
    rintro e w' ⟨rfl,rfl⟩
    by_cases q0:0<=a/\a<=(k:Int) - 1
    ·rw [show decide (0<=a/\a<=(k:Int) - 1)=true from decide_eq_true q0]
     try dsimp only
     go_wp2_with fail
     refine (Q1N _ _ _ _).mono ?_
     rintro e w' ⟨rfl,rfl⟩
     by_cases q1:0<=b/\b<=(k:Int) - 1
     ·rw [show decide (0<=b/\b<=(k:Int) - 1)=true from decide_eq_true q1]
      try dsimp only
      by_cases q2:n=0
      ·have hq2:(n==0)=true:=by rw [beq_iff_eq];exact q2
       have HG:=Qh (show Q0u ⟨4,a,b,n⟩ k=true by simp [Q0u,Q0H];omega)
       clear q0 q1
       go_wp2_with fail
       exact ⟨⟨k+1,by omega,by go_num,by rw [HS.out];exact HG.out,K5.out _ _ _,B5.out _ _ _⟩,by simp [intOf]<;>omega⟩
      ·have hq2:(n==0)=false:=by rw [beq_eq_false_iff_ne];exact q2
       have HG:=Qh (show Q0u ⟨4,a,b,n⟩ k=false by simp [Q0u,Q0H];omega)
       go_wp2_with fail
       have hp:=HP.out
       rw [HBAD.out HG.out] at hp
       exact hp _ (B5.out _ _ _)
     ·rw [show decide (0<=b/\b<=(k:Int) - 1)=false from decide_eq_false q1]
      try dsimp only
      have HG:=Qh (show Q0u ⟨4,a,b,n⟩ k=false by simp [Q0u,Q0H];omega)
      clear q1
      go_wp2_with fail
      have hp:=HP.out
      rw [HBAD.out HG.out] at hp
      exact hp _ (B5.out _ _ _)
    ·rw [show decide (0<=a/\a<=(k:Int) - 1)=false from decide_eq_false q0]
     try dsimp only
     have HG:=Qh (show Q0u ⟨4,a,b,n⟩ k=false by simp [Q0u,Q0H];omega)
     clear q0
     go_wp2_with fail
     have hp:=HP.out
     rw [HBAD.out HG.out] at hp
     exact hp _ (B5.out _ _ _)
   by_cases hk5:kd=5
   ·subst hk5
    go_wp2_with fail
    refine (Q1N _ _ _ _).mono ?_
    rintro e w' ⟨rfl,rfl⟩
    by_cases q0:0<=a/\a<=(k:Int) - 1
    ·rw [show decide (0<=a/\a<=(k:Int) - 1)=true from decide_eq_true q0]
     try dsimp only
     go_wp2_with fail
     refine (Q1N _ _ _ _).mono ?_
     rintro e w' ⟨rfl,rfl⟩
     by_cases q1:0<=b/\b<=(k:Int) - 1
     ·rw [show decide (0<=b/\b<=(k:Int) - 1)=true from decide_eq_true q1]
      try dsimp only
      by_cases q2:n=0
      ·have hq2:(n==0)=true:=by rw [beq_iff_eq];exact q2
       have HG:=Qh (show Q0u ⟨5,a,b,n⟩ k=true by simp [Q0u,Q0H];omega)
       clear q0 q1
       go_wp2_with fail
       exact ⟨⟨k+1,by omega,by go_num,by rw [HS.out];exact HG.out,K5.out _ _ _,B5.out _ _ _⟩,by simp [intOf]<;>omega⟩
      ·have hq2:(n==0)=false:=by rw [beq_eq_false_iff_ne];exact q2
       have HG:=Qh (show Q0u ⟨5,a,b,n⟩ k=false by simp [Q0u,Q0H];omega)
       go_wp2_with fail
       have hp:=HP.out
       rw [HBAD.out HG.out] at hp
       exact hp _ (B5.out _ _ _)
     ·rw [show decide (0<=b/\b<=(k:Int) - 1)=false from decide_eq_false q1]
      try dsimp only
      have HG:=Qh (show Q0u ⟨5,a,b,n⟩ k=false by simp [Q0u,Q0H];omega)
      clear q1
      go_wp2_with fail
      have hp:=HP.out
      rw [HBAD.out HG.out] at hp
      exact hp _ (B5.out _ _ _)
    ·rw [show decide (0<=a/\a<=(k:Int) - 1)=false from decide_eq_false q0]
     try dsimp only
     have HG:=Qh (show Q0u ⟨5,a,b,n⟩ k=false by simp [Q0u,Q0H];omega)
     clear q0
     go_wp2_with fail
     have hp:=HP.out
     rw [HBAD.out HG.out] at hp
     exact hp _ (B5.out _ _ _)
   by_cases hk6:kd=6
   ·subst hk6
    go_wp2_with fail
    refine (Q1N _ _ _ _).mono ?_
    rintro e w' ⟨rfl,rfl⟩
    by_cases q0:0<=a/\a<=(k:Int) - 1
    ·rw [show decide (0<=a/\a<=(k:Int) - 1)=true from decide_eq_true q0]
     try dsimp only
     by_cases q1:b=0
     ·have hq1:(b==0)=true:=by rw [beq_iff_eq];exact q1
      have HG:=Qh (show Q0u ⟨6,a,b,n⟩ k=true by simp [Q0u,Q0H];omega)
      clear q0
      go_wp2_with fail
      exact ⟨⟨k+1,by omega,by go_num,by rw [HS.out];exact HG.out,K5.out _ _ _,B5.out _ _ _⟩,by simp [intOf]<;>omega⟩
     ·have hq1:(b==0)=false:=by rw [beq_eq_false_iff_ne];exact q1
      have HG:=Qh (show Q0u ⟨6,a,b,n⟩ k=false by simp [Q0u,Q0H];omega)
      go_wp2_with fail
      have hp:=HP.out
      rw [HBAD.out HG.out] at hp
      exact hp _ (B5.out _ _ _)
    ·rw [show decide (0<=a/\a<=(k:Int) - 1)=false from decide_eq_false q0]
     try dsimp only
     have HG:=Qh (show Q0u ⟨6,a,b,n⟩ k=false by simp [Q0u,Q0H];omega)
     clear q0
     go_wp2_with fail
     have hp:=HP.out
     rw [HBAD.out HG.out] at hp
     exact hp _ (B5.out _ _ _)
   have hb1:(kd==1)=false:=by rw [beq_eq_false_iff_ne];exact hk1
   have hb2:(kd==2)=false:=by rw [beq_eq_false_iff_ne];exact hk2
   have hb3:(kd==3)=false:=by rw [beq_eq_false_iff_ne];exact hk3
   have hb4:(kd==4)=false:=by rw [beq_eq_false_iff_ne];exact hk4
   have hb5:(kd==5)=false:=by rw [beq_eq_false_iff_ne];exact hk5
   have hb6:(kd==6)=false:=by rw [beq_eq_false_iff_ne];exact hk6
   have HG:=Qh (show Q0u ⟨kd,a,b,n⟩ k=false by simp [Q0u,hk1,hk2,hk3,hk4,hk5,hk6])
   clear hk1 hk2 hk3 hk4 hk5 hk6
   go_wp2_with fail
   have hp:=HP.out
   rw [HBAD.out HG.out] at hp
   exact hp _ (B5.out _ _ _)
  ·obtain rfl:k=gs.length:=by omega
   go_wp2_with fail
   clear hc0 hc1'
   obtain ⟨wo,hwo⟩: ∃wo,wo=wr:=⟨_,rfl⟩
   subst hwo
   go_loopw [6] (fun i wr=> ∃(q nd:Nat),q<=os.length/\i= .int .i64 q/\(∀o∈os.take q,0<=o/\o<gs.length)/\wr=wo.drewN nd) (fun i _=>os.length - (intOf i).toNat)
   case atStart=>exact ⟨0,0,Nat.zero_le _,rfl,by simp,rfl⟩
   case round=>
    obtain ⟨q,nd,hq,rfl,hall,hwm⟩:=hrel
    have HALL:=Qh hall
    have HWM:=Qh hwm
    have hbq:Below w.heap.size w wr:=by rw [hwm];exact below_drewN BEL.out nd
    have BELQ:=Qh hbq
    have hc0:wr.cell? ⟨w.heap.size,0,none⟩=some (.slice A1 gs.length c1):=by rw [hwm];exact (KB.out.drewN nd).cell (i:=0) rfl
    have hc1':wr.cell? ⟨w.heap.size,1,none⟩=some (.slice A2 os.length c2):=by rw [hwm];exact (KB.out.drewN nd).cell (i:=1) rfl
    clear hall hwm hbq
    by_cases hlt2:q<os.length
    ·obtain ⟨A,c,hA,_,_,_,hu,hr⟩:=(KO.out.below BELQ.out)
     injection hA with hA1 hA2 hA3
     subst hA1 hA3
     obtain ⟨b1',o1,z,rfl,hb1,hgq,hat,hca⟩:=ints_at hr hu hlt2
     have HGQ:=Qh hgq
     clear hr hu hgq hb1 hA2
     by_cases hz:0<=z/\z<=(gs.length:Int) - 1
     ·have CI:=Qh (show∀W,Calls Tryz.prog 41 #[.int .i64 z,.int .i64 0,.int .i64 ((gs.length:Int) - 1)] W fun e w'=>e= .returned (.bool true)/\W=w' from fun W=>by
       have h:=Q1N z 0 ((gs.length:Int) - 1) W
       rw [decide_eq_true hz] at h
       exact h)
      have HA2:=Qh (show∀o∈os.take (q+1),0<=o/\o<gs.length from fun o ho=>by
       rw [List.take_add_one,HGQ.out] at ho
       rcases List.mem_append.1 ho with h1|h1
       ·exact HALL.out o h1
       ·simp at h1;subst h1;omega)
      clear hz
      go_wp2_with fail
      go_quiet (exact Q1b (CI.out _))
      go_wp2_with fail
      exact ⟨⟨q+1,_,by omega,by go_num,HA2.out,Q4n HWM.out _⟩,by simp [intOf]<;>omega⟩
     ·have CI:=Qh (show∀W,Calls Tryz.prog 41 #[.int .i64 z,.int .i64 0,.int .i64 ((gs.length:Int) - 1)] W fun e w'=>e= .returned (.bool false)/\W=w' from fun W=>by
       have h:=Q1N z 0 ((gs.length:Int) - 1) W
       rw [decide_eq_false hz] at h
       exact h)
      have HOB:=Qh (show Q0U gs os=1 by
       rw [HE.out,if_pos HOK.out,if_neg (fun h=> ?_)]
       have:=Q8c.1 h z (List.mem_of_getElem? HGQ.out)
       omega)
      clear hz
      go_wp2_with fail
      go_quiet (exact Q1b (CI.out _))
      go_wp2_with fail
      have hp:=HP.out
      rw [HOB.out] at hp
      exact hp _ (below_drewN BELQ.out nq)
    ·obtain rfl:q=os.length:=by omega
     have HZ:=Qh (show Q0U gs os=0 by
      rw [HE.out,if_pos HOK.out,if_pos (Q8c.2 fun o ho=>HALL.out o (by rw [List.take_length];exact ho))])
     go_wp2_with fail
     have hp:=HP.out _ BELQ.out
     rw [HZ.out] at hp
     exact hp
theorem Q7e (v:Value) (gs:List Gt) (os:List Int) (w:World) (h:Q1m w v gs os):
  Calls Tryz.prog 87 #[v] w fun e w'=> ∃v,e= .returned v/\Q0j w' w.heap.size v (Q0E gs)/\Below w.heap.size w w':=by
 obtain ⟨vg,vo,rfl,hg,ho⟩:=h
 have KG:=Qh hg
 obtain ⟨A1,c1,rfl,hc1,hm1,hl1,hu1,hr1⟩:=hg
 obtain ⟨A2,c2,rfl,hc2,hm2,hl2,hu2,hr2⟩:=ho
 have BB:=Qh ((Below.refl w.heap.size w).alloc (Nat.le_refl _) (.cells #[.slice A1 gs.length c1,.slice A2 os.length c2] 85))
 have BX0:=Qh (Box.new w 85 [.slice A1 gs.length c1,.slice A2 os.length c2])
 suffices hgoal: ∀Post:Ending->World->Prop,(∀v w',Q0j w' w.heap.size v (Q0E gs)->Below w.heap.size w w'->Post (.returned v) w')->Calls Tryz.prog 87 #[.agg #[.slice A1 gs.length c1,.slice A2 os.length c2]] w Post from hgoal _ fun v w' h1 h2=>⟨v,rfl,h1,h2⟩
 intro Post hpo
 have HP:=Qh hpo
 clear hu1 hr1 hm1 hu2 hr2 hm2 hpo
 go_enter Tryz.func87,Tryz.ntmps87
 go_wp2_with fail
 go_loopw [3,4] (fun v i wr=> ∃k:Nat,k<=gs.length/\i= .int .i64 k/\Q0j wr (w.heap.size+1) v (Q0E (gs.take k))/\Box wr w.heap.size 85 [.slice A1 gs.length c1,.slice A2 os.length c2]/\Below w.heap.size w wr/\w.heap.size+1<=wr.heap.size) (fun _ i _=>gs.length - (intOf i).toNat)
 case atStart=>exact ⟨0,Nat.zero_le _,rfl,Q0j.nil _ _,BX0.out,BB.out,by rw [size_alloc];omega⟩
 case round=>
  obtain ⟨k,hk,rfl,hown,hbox,hbel,hs1⟩:=hrel
  have KW:=Qh hown
  have KB:=Qh hbox
  have BEL:=Qh hbel
  have hsz:=hbel.size
  have hc0:=hbox.cell (i:=0) rfl
  clear hown hbox hbel
  by_cases hlt:k<gs.length
  ·obtain ⟨A,c,hA,_,_,_,hu,hr⟩:=(KG.out.below BEL.out)
   injection hA with hA1 hA2 hA3
   subst hA1 hA3
   obtain ⟨b1',o1,g,rfl,hb1,hgk,hgo,ha1,ha2,ha3,ha4⟩:=Q2V hr hu hlt
   have hga:=hgo.2.1
   have HW:=Qh (Q7C hgk)
   have hwl:(Q0E (gs.take k)).length<=k:=by
    unfold Q0E
    rw [List.length_map]
    exact Nat.le_trans (List.length_filter_le _ _) (by rw [List.length_take];omega)
   have HWL:=Qh hwl
   clear hr hu hgk hb1 hwl hA2
   by_cases hk1:g.kind=1
   ·have hkb:(g.kind==1)=true:=by rw [beq_iff_eq];exact hk1
    have HK:=Qh hk1
    clear hk1
    go_wp2_with (at_builtin;go_loud (refine Q9B rfl _ _ rfl (w.heap.size+1) _ _ g.a wr.heap.size 1 rfl (KW.out.alloc _) rfl (Q0o _ _ _) hga (by have:=HWL.out;omega) (by rw [size_alloc];omega) ?_))
    intro v' w5 hown' hbel' hg' _
    have K5:=Qh hown'
    have BX5:=Qh ((KB.out.alloc (.cells #[.int .i64 g.a] 3)).under hbel' (by omega))
    have hb5:Below w.heap.size w w5:=(BEL.out.alloc hsz (.cells #[.int .i64 g.a] 3)).trans (hbel'.mono (by omega))
    have hs5:w.heap.size+1<=w5.heap.size:=by have:=hbel'.size;rw [size_alloc] at this;omega
    have B5:=Qh hb5
    clear hown' hbel' hb5 hg'
    go_wp2_with fail
    exact ⟨⟨k+1,by omega,by go_num,by rw [HW.out,if_pos HK.out];exact K5.out,BX5.out,B5.out,hs5⟩,by simp [intOf]<;>omega⟩
   ·have hkb:(g.kind==1)=false:=by rw [beq_eq_false_iff_ne];exact hk1
    have HK:=Qh hk1
    clear hk1
    go_wp2_with fail
    exact ⟨⟨k+1,by omega,by go_num,by rw [HW.out,if_neg HK.out];exact KW.out,KB.out,BEL.out,hs1⟩,by simp [intOf]<;>omega⟩
  ·obtain rfl:k=gs.length:=by omega
   have HT:=Qh (show gs.take gs.length=gs from List.take_length)
   rw [HT.out] at KW
   go_wp2_with fail
   exact HP.out _ _ (KW.out.less (by omega)) BEL.out
end Go.Proofs.YtploomncapiloaaGreatDoor
