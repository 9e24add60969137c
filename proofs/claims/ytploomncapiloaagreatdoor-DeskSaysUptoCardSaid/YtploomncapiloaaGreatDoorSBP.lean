/- Parts of the proof, put together by a program: BenO BenP. No condition. -/
import Derived.Test.YtploomncapiloaaGreatDoorSBO
set_option maxRecDepth 100000
set_option maxHeartbeats 8000000
namespace Go.Proofs.YtploomncapiloaaGreatDoor
open Go.RowKit Go.Sort Go.PlainAid Croft
def Q7x (v:List UInt8) (k:Nat):Bool:=
 if v=Z1P then decide (2<=k) else if v=Q2z then decide (2<=k) else if v=Z1Q then decide (k % 2=1) else if v=Q3s then decide (1<=k) else if v=Q7v then decide (k=0) else if v=Q8v then decide (k=0) else if v=Z1R then decide (k=2) else if v=Q6E then decide (k=2) else if v=Q3t then decide (k=4) else if v=Y0r then decide (k=1) else if v=Z1f then decide (k=1) else if v=Z6G then decide (True) else if v=Y0q then decide (True) else false
theorem Y1h (k:Nat):Q7x Z1P k=decide (2<=k):=rfl
theorem Z1r (k:Nat):Q7x Q2z k=decide (2<=k):=rfl
theorem Y1i (k:Nat):Q7x Z1Q k=decide (k % 2=1):=rfl
theorem Z2u (k:Nat):Q7x Q3s k=decide (1<=k):=rfl
theorem Z6P (k:Nat):Q7x Q7v k=decide (k=0):=rfl
theorem Y1j (k:Nat):Q7x Q8v k=decide (k=0):=rfl
theorem Y1k (k:Nat):Q7x Z1R k=decide (k=2):=rfl
theorem Z6Q (k:Nat):Q7x Q6E k=decide (k=2):=rfl
theorem Z2v (k:Nat):Q7x Q3t k=decide (k=4):=rfl
theorem Y4o (k:Nat):Q7x Y0r k=decide (k=1):=rfl
theorem Y1l (k:Nat):Q7x Z1f k=decide (k=1):=rfl
theorem Y5T (k:Nat):Q7x Z6G k=decide (True):=rfl
theorem Y5U (k:Nat):Q7x Y0q k=decide (True):=rfl
theorem Z6R {v:List UInt8} (k:Nat) (n_Deal: ¬v=Z1P) (n_Multiply: ¬v=Q2z) (n_Open: ¬v=Z1Q) (n_Refresh: ¬v=Q3s) (n_Clear: ¬v=Q7v) (n_Show: ¬v=Q8v) (n_Keys: ¬v=Z1R) (n_Tweak: ¬v=Q6E) (n_Combine: ¬v=Q3t) (n_Key: ¬v=Y0r) (n_Drop: ¬v=Z1f) (n_Run: ¬v=Z6G) (n_Gen: ¬v=Y0q):Q7x v k=false:=by
 unfold Q7x;rw [if_neg n_Deal,if_neg n_Multiply,if_neg n_Open,if_neg n_Refresh,if_neg n_Clear,if_neg n_Show,if_neg n_Keys,if_neg n_Tweak,if_neg n_Combine,if_neg n_Key,if_neg n_Drop,if_neg n_Run,if_neg n_Gen]
theorem Z4L (b:Q1O) (n:List Int) {v:List UInt8} (n_Deal: ¬v=Z1P) (n_Open: ¬v=Z1Q) (n_Clear: ¬v=Q7v) (n_Show: ¬v=Q8v) (n_Run: ¬v=Z6G) (n_Keys: ¬v=Z1R):Q0P b v n=none:=by
 unfold Q0P;rw [if_neg n_Deal,if_neg n_Open,if_neg n_Clear,if_neg n_Show,if_neg n_Run,if_neg n_Keys]
theorem Y1m {b:Q1O} {v:List UInt8} {ws:List (List UInt8)} (h1: ¬v=Q3M) (h2: ¬v=Q9a) (h:(Q0X ws && Q7x v ws.length)=false):Q0C b v ws=(Q2h 3,b):=by
 by_cases h3:Q0X ws=true
 ·rw [Q7W h1 h2 h3]
  rw [h3,Bool.true_and] at h
  obtain ⟨n,hn⟩: ∃n,n=ws.map Q2s:=⟨_,rfl⟩
  have hl:ws.length=n.length:=by rw [hn,List.length_map]
  rw [hl] at h
  rw [<-hn]
  clear hn hl h3
  by_cases n_Deal:v=Z1P
  ·rw [n_Deal,Y1h] at h
   have hc: ¬(2<=n.length):=of_decide_eq_false h
   rw [show Q0P b v n=none from by unfold Q0P;rw [if_pos n_Deal,if_neg hc],Option.getD_none];exact (show Q2P b v n=(Q2h 3,b) from by unfold Q2P Q1B;rw [if_neg (by rw [n_Deal];decide),if_neg (by rw [n_Deal];decide),if_neg (by rw [n_Deal];decide),if_neg (by rw [n_Deal];decide),if_neg (by rw [n_Deal];decide),if_neg (by rw [n_Deal];decide),if_neg (by rw [n_Deal];decide)])
  by_cases n_Open:v=Z1Q
  ·rw [n_Open,Y1i] at h
   have hc:n.length % 2=0:=by have:=of_decide_eq_false h;omega
   by_cases h0:1<=n.length
   ·rw [show Q0P b v n=some (Q2h 3,b) from by unfold Q0P;rw [if_neg (by rw [n_Open];decide),if_pos n_Open,if_pos h0,if_pos hc]];rfl
   ·rw [show Q0P b v n=none from by unfold Q0P;rw [if_neg (by rw [n_Open];decide),if_pos n_Open,if_neg h0],Option.getD_none];exact (show Q2P b v n=(Q2h 3,b) from by unfold Q2P Q1B;rw [if_neg (by rw [n_Open];decide),if_neg (by rw [n_Open];decide),if_neg (by rw [n_Open];decide),if_neg (by rw [n_Open];decide),if_neg (by rw [n_Open];decide),if_neg (by rw [n_Open];decide),if_neg (by rw [n_Open];decide)])
  by_cases n_Clear:v=Q7v
  ·rw [n_Clear,Z6P] at h
   have hc: ¬(n.length=0):=of_decide_eq_false h
   rw [show Q0P b v n=none from by unfold Q0P;rw [if_neg (by rw [n_Clear];decide),if_neg (by rw [n_Clear];decide),if_pos n_Clear,if_neg hc],Option.getD_none];exact (show Q2P b v n=(Q2h 3,b) from by unfold Q2P Q1B;rw [if_neg (by rw [n_Clear];decide),if_neg (by rw [n_Clear];decide),if_neg (by rw [n_Clear];decide),if_neg (by rw [n_Clear];decide),if_neg (by rw [n_Clear];decide),if_neg (by rw [n_Clear];decide),if_neg (by rw [n_Clear];decide)])
  by_cases n_Show:v=Q8v
  ·rw [n_Show,Y1j] at h
   have hc: ¬(n.length=0):=of_decide_eq_false h
   rw [show Q0P b v n=none from by unfold Q0P;rw [if_neg (by rw [n_Show];decide),if_neg (by rw [n_Show];decide),if_neg (by rw [n_Show];decide),if_pos n_Show,if_neg hc],Option.getD_none];exact (show Q2P b v n=(Q2h 3,b) from by unfold Q2P Q1B;rw [if_neg (by rw [n_Show];decide),if_neg (by rw [n_Show];decide),if_neg (by rw [n_Show];decide),if_neg (by rw [n_Show];decide),if_neg (by rw [n_Show];decide),if_neg (by rw [n_Show];decide),if_neg (by rw [n_Show];decide)])
  by_cases n_Run:v=Z6G
  ·rw [n_Run,Y5T] at h
   simp at h
  by_cases n_Keys:v=Z1R
  ·rw [n_Keys,Y1k] at h
   have hc: ¬(n.length=2):=of_decide_eq_false h
   rw [show Q0P b v n=none from by unfold Q0P;rw [if_neg (by rw [n_Keys];decide),if_neg (by rw [n_Keys];decide),if_neg (by rw [n_Keys];decide),if_neg (by rw [n_Keys];decide),if_neg (by rw [n_Keys];decide),if_pos n_Keys,if_neg hc],Option.getD_none];exact (show Q2P b v n=(Q2h 3,b) from by unfold Q2P Q1B;rw [if_neg (by rw [n_Keys];decide),if_neg (by rw [n_Keys];decide),if_neg (by rw [n_Keys];decide),if_neg (by rw [n_Keys];decide),if_neg (by rw [n_Keys];decide),if_neg (by rw [n_Keys];decide),if_neg (by rw [n_Keys];decide)])
  rw [Z4L b n n_Deal n_Open n_Clear n_Show n_Run n_Keys,Option.getD_none]
  unfold Q2P
  rw [show Q1B v n=none from ?_]
  unfold Q1B
  by_cases n_Gen:v=Y0q
  ·rw [n_Gen,Y5U] at h
   simp at h
  rw [if_neg n_Gen]
  by_cases n_Refresh:v=Q3s
  ·rw [n_Refresh,Z2u] at h
   have hc: ¬(1<=n.length):=of_decide_eq_false h
   rw [if_pos n_Refresh,if_neg hc]
  rw [if_neg n_Refresh]
  by_cases n_Tweak:v=Q6E
  ·rw [n_Tweak,Z6Q] at h
   have hc: ¬(n.length=2):=of_decide_eq_false h
   rw [if_pos n_Tweak,if_neg hc]
  rw [if_neg n_Tweak]
  by_cases n_Combine:v=Q3t
  ·rw [n_Combine,Z2v] at h
   have hc: ¬(n.length=4):=of_decide_eq_false h
   rw [if_pos n_Combine,if_neg hc]
  rw [if_neg n_Combine]
  by_cases n_Multiply:v=Q2z
  ·rw [n_Multiply,Z1r] at h
   have hc: ¬(2<=n.length):=of_decide_eq_false h
   rw [if_pos n_Multiply,if_neg hc]
  rw [if_neg n_Multiply]
  by_cases n_Key:v=Y0r
  ·rw [n_Key,Y4o] at h
   have hc: ¬(n.length=1):=of_decide_eq_false h
   rw [if_pos n_Key,if_neg hc]
  rw [if_neg n_Key]
  by_cases n_Drop:v=Z1f
  ·rw [n_Drop,Y1l] at h
   have hc: ¬(n.length=1):=of_decide_eq_false h
   rw [if_pos n_Drop,if_neg hc]
  rw [if_neg n_Drop]
 ·unfold Q0C;rw [if_neg h1,if_neg h2,if_neg h3]
theorem Y3K {v:List UInt8} {n:List Int} (h:Q7x v n.length=true) (n_Deal: ¬v=Z1P) (n_Open: ¬v=Z1Q) (n_Clear: ¬v=Q7v) (n_Show: ¬v=Q8v) (n_Run: ¬v=Z6G) (n_Keys: ¬v=Z1R): ∃f,Q1B v n=some f:=by
 unfold Q1B
 by_cases n_Gen:v=Y0q
 ·exact ⟨_,if_pos n_Gen⟩
 rw [if_neg n_Gen]
 by_cases n_Refresh:v=Q3s
 ·rw [n_Refresh,Z2u] at h
  exact ⟨_,by rw [if_pos n_Refresh,if_pos (of_decide_eq_true h)]⟩
 rw [if_neg n_Refresh]
 by_cases n_Tweak:v=Q6E
 ·rw [n_Tweak,Z6Q] at h
  exact ⟨_,by rw [if_pos n_Tweak,if_pos (of_decide_eq_true h)]⟩
 rw [if_neg n_Tweak]
 by_cases n_Combine:v=Q3t
 ·rw [n_Combine,Z2v] at h
  exact ⟨_,by rw [if_pos n_Combine,if_pos (of_decide_eq_true h)]⟩
 rw [if_neg n_Combine]
 by_cases n_Multiply:v=Q2z
 ·rw [n_Multiply,Z1r] at h
  exact ⟨_,by rw [if_pos n_Multiply,if_pos (of_decide_eq_true h)]⟩
 rw [if_neg n_Multiply]
 by_cases n_Key:v=Y0r
 ·rw [n_Key,Y4o] at h
  exact ⟨_,by rw [if_pos n_Key,if_pos (of_decide_eq_true h)]⟩
 rw [if_neg n_Key]
 by_cases n_Drop:v=Z1f
 ·rw [n_Drop,Y1l] at h
  exact ⟨_,by rw [if_pos n_Drop,if_pos (of_decide_eq_true h)]⟩
 rw [if_neg n_Drop]
 rw [Z6R n.length n_Deal n_Multiply n_Open n_Refresh n_Clear n_Show n_Keys n_Tweak n_Combine n_Key n_Drop n_Run n_Gen] at h
 cases h
theorem Y3L {base db kb mb lo:Nat} {tx:List UInt8} {k:Q1J} {va:Value} {n:List Int} {w:World} (v:List UInt8) {f:Q1J->List UInt8×Q1J} (hf:Q1B v n=some f) (H:Q7S w base db kb mb lo tx k va n):
  Calls Tryz.prog 43 #[.pointer (some ⟨db,0,none⟩),.string (bs v),va] w fun e w'=>Z4F base kb mb (f k) w e w':=by
 unfold Q1B at hf
 by_cases n_Gen:v=Y0q
 ·rw [if_pos n_Gen] at hf
  injection hf with hf
  subst hf
  rw [n_Gen]
  exact Y0N n k va w H
 rw [if_neg n_Gen] at hf
 by_cases n_Refresh:v=Q3s
 ·rw [if_pos n_Refresh] at hf
  split at hf
  ·next hc=>
   injection hf with hf
   subst hf
   rw [n_Refresh]
   match n,hc,H with
   |z0::r,_,H=>exact Y0O z0 r k va w H
  ·cases hf
 rw [if_neg n_Refresh] at hf
 by_cases n_Tweak:v=Q6E
 ·rw [if_pos n_Tweak] at hf
  split at hf
  ·next hc=>
   injection hf with hf
   subst hf
   rw [n_Tweak]
   match n,hc,H with
   | [z0,z1],_,H=>exact Y0P z0 z1 k va w H
  ·cases hf
 rw [if_neg n_Tweak] at hf
 by_cases n_Combine:v=Q3t
 ·rw [if_pos n_Combine] at hf
  split at hf
  ·next hc=>
   injection hf with hf
   subst hf
   rw [n_Combine]
   match n,hc,H with
   | [z0,z1,z2,z3],_,H=>exact Y0Q z0 z1 z2 z3 k va w H
  ·cases hf
 rw [if_neg n_Combine] at hf
 by_cases n_Multiply:v=Q2z
 ·rw [if_pos n_Multiply] at hf
  split at hf
  ·next hc=>
   injection hf with hf
   subst hf
   rw [n_Multiply]
   match n,hc,H with
   |z0::z1::r,_,H=>exact Y0R z0 z1 r k va w H
  ·cases hf
 rw [if_neg n_Multiply] at hf
 by_cases n_Key:v=Y0r
 ·rw [if_pos n_Key] at hf
  split at hf
  ·next hc=>
   injection hf with hf
   subst hf
   rw [n_Key]
   match n,hc,H with
   | [z0],_,H=>exact Y0S z0 k va w H
  ·cases hf
 rw [if_neg n_Key] at hf
 by_cases n_Drop:v=Z1f
 ·rw [if_pos n_Drop] at hf
  split at hf
  ·next hc=>
   injection hf with hf
   subst hf
   rw [n_Drop]
   match n,hc,H with
   | [z0],_,H=>exact Y0T z0 k va w H
  ·cases hf
 rw [if_neg n_Drop] at hf
 cases hf
theorem Z6g (vn vd:Value) (db:Nat) (tx:List UInt8) (kp:Value) (w:World) (hd:Box w db 47 [.string (bs tx),kp]) (hL:Lay w):
  Calls Tryz.prog 40 #[.pointer (some ⟨db,0,none⟩),.string (bs Q8v),vn,vd] w fun e w'=>e= .returned (.string (bs (Q5e tx Q7Q)))/\Below w.heap.size w w':=by
 by_cases he:(Q0s tx).e=0
 ·exact Z8n vn vd db tx kp w hd hL he
 ·exact Z1m _ vn vd _ db tx kp w hd hL he
theorem Z8v (vn vd:Value) (n:List Int) (db:Nat) (tx:List UInt8) (kp:Value) (w:World) (hd:Box w db 47 [.string (bs tx),kp]) (hL:Lay w) (h1:Q0y w vn n) (hn0: ∀z∈n,0<=z):
  Calls Tryz.prog 40 #[.pointer (some ⟨db,0,none⟩),.string (bs Z6G),vn,vd] w fun e w'=>e= .returned (.string (bs (Q5e tx (Z3x n))))/\Below w.heap.size w w':=by
 by_cases he:(Q0s tx).e=0
 ·exact Y0W vn vd n db tx kp w hd hL h1 hn0 he
 ·exact Z1m _ vn vd _ db tx kp w hd hL he
end Go.Proofs.YtploomncapiloaaGreatDoor
