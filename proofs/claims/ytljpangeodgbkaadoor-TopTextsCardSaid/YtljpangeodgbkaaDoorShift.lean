/- A shift to the right by a variable count, as one step of a walk. -/
import Derived.WalkKit
namespace Go.Proofs.YtljpangeodgbkaaDoor
def shrN (x y : Int) : Int := x / 2 ^ y.toNat
theorem shrN_nonneg {x : Int} (h : 0 ≤ x) (y : Int) : 0 ≤ shrN x y := Int.ediv_nonneg h (Int.pow_nonneg (by omega))
section
variable {P : Program} {ops : Array Oper} {rest : List Oper} {Q : Exit → Act → World → Prop} {a : Act} {w : World} {o : Oper}
theorem run_shr (k : IntKind) (t : TypeId) (x y : Int) (h0 : 0 ≤ y) (h1 : y ≤ 63) (hk : k.bits = 64) :
    (binOp .shr t (.int k x) (.int .i64 y)).run P w = .ok (.int k (shrN x y)) w := by
  simp only [binOp, shift_shr_any _ _ _ _ h0, hk]
  rw [show min y.toNat 64 = y.toNat by omega]
  rfl
theorem wpList_shr (k : IntKind) (t ty : TypeId) (s z : Operand) (x y : Int) (hgd : o.guard = none) (ho : o.op = .binOp .shr t s z ty) (hs : a.eval s = .int k x) (hz : a.eval z = .int .i64 y)
    (h0 : 0 ≤ y) (h1 : y ≤ 63) (hk : k.bits = 64) (h : wpList P ops Q rest (a.put o.dst (.int k (shrN x y))) w) : wpList P ops Q (o :: rest) a w := by
  refine wpList_plain hgd fun K hK => ?_
  unfold Oper.wp execOp
  have hr := run_shr (P := P) (w := w) k t x y h0 h1 hk
  simp [ho, hs, hz, eqGuard, hr]
  exact hK _ _ h
theorem run_quo (t : TypeId) (x y : Int) (h0 : 0 ≤ x) (h1 : 1 ≤ y) (hx : x < 18446744073709551616) : (binOp .quo t (.int .u64 x) (.int .u64 y)).run P w = .ok (.int .u64 (x / y)) w := by
  have hd : x.tdiv y = x / y := Int.tdiv_eq_ediv_of_nonneg h0
  have h2 : 0 ≤ x / y := Int.ediv_nonneg h0 (by omega)
  have h3 : x / y ≤ x := Int.ediv_le_self _ h0
  have hw : IntKind.u64.wrap (x / y) = x / y := by rw [IntKind.wrap_u64]; exact Int.emod_eq_of_lt h2 (by omega)
  have hy : ¬ y = 0 := by omega
  simp [binOp, Op.intDiv, hy, hd, hw]
theorem wpList_quo (t ty : TypeId) (s z : Operand) (x y q : Int) (hgd : o.guard = none) (ho : o.op = .binOp .quo t s z ty) (hs : a.eval s = .int .u64 x) (hz : a.eval z = .int .u64 y)
    (h0 : 0 ≤ x) (h1 : 1 ≤ y) (hx : x < 18446744073709551616) (hq : x / y = q) (h : wpList P ops Q rest (a.put o.dst (.int .u64 q)) w) : wpList P ops Q (o :: rest) a w := by
  subst hq
  refine wpList_plain hgd fun K hK => ?_
  unfold Oper.wp execOp
  have hr := run_quo (P := P) (w := w) t x y h0 h1 hx
  simp [ho, hs, hz, eqGuard, hr]
  exact hK _ _ h
end
end Go.Proofs.YtljpangeodgbkaaDoor
