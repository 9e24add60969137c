/- A circuit's text, plainly. -/
import Derived.Test.YtljpangeodgbkaaDoorCirc
import Derived.Lib.ItoaMem
import Derived.Lib.ItoaLen
namespace Croft
def wordL (k : Int) : List UInt8 :=
  if k = 1 then [105, 110, 112, 117, 116]
  else if k = 2 then [99, 111, 110, 115, 116]
  else if k = 3 then [97, 100, 100]
  else if k = 4 then [115, 117, 98]
  else if k = 5 then [109, 117, 108]
  else if k = 6 then [115, 99, 97, 108, 101]
  else []
/-- a number's digits -/
def numL (z : Int) : List UInt8 := Go.Lib.decDigits z.toNat
/-- a gate's line, without its end -/
def lineT (g : Gt) : List UInt8 :=
  wordL g.kind ++ (if g.kind = 1 then 32 :: numL g.a else if g.kind = 2 then 32 :: numL (ofF (toF g.n)) else if g.kind = 6 then 32 :: numL g.a ++ 32 :: numL (ofF (toF g.n)) else 32 :: numL g.a ++ 32 :: numL g.b)
def gateT (g : Gt) : List UInt8 := lineT g ++ [10]
def outT (o : Int) : List UInt8 := [111, 117, 116, 32] ++ numL o ++ [10]
def circT (gs : List Gt) (os : List Int) : List UInt8 := gs.flatMap gateT ++ os.flatMap outT
theorem numL_len (z : Int) (h : z < 18446744073709551616) : (numL z).length ≤ 20 := by
  unfold numL
  rw [Go.Lib.decDigits_length]
  exact Go.Lib.nDigits_le20 _ (by omega)
theorem wordL_len (k : Int) : (wordL k).length ≤ 5 := by
  unfold wordL
  repeat' split
  all_goals decide
theorem lineT_len (g : Gt) (ha : g.a < 18446744073709551616) (hb : g.b < 18446744073709551616) : (lineT g).length ≤ 47 := by
  have h1 := wordL_len g.kind
  have h2 := numL_len g.a ha
  have h3 := numL_len g.b hb
  have h4 := numL_len (ofF (toF g.n)) (by have := ofF_lt (toF g.n); omega)
  unfold lineT
  rw [List.length_append]
  split
  · simp only [List.length_cons]; omega
  · split
    · simp only [List.length_cons]; omega
    · split
      · simp only [List.length_cons, List.length_append]; omega
      · simp only [List.length_cons, List.length_append]; omega
theorem gatesT_next {gs : List Gt} {k : Nat} {g : Gt} (h : gs[k]? = some g) : (gs.take (k + 1)).flatMap gateT = (gs.take k).flatMap gateT ++ gateT g := by
  rw [List.take_add_one, h]; simp
theorem outsT_next {os : List Int} {k : Nat} {o : Int} (h : os[k]? = some o) : (os.take (k + 1)).flatMap outT = (os.take k).flatMap outT ++ outT o := by
  rw [List.take_add_one, h]; simp
end Croft
