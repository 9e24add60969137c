/- What the rows' listed variables give the walks. -/
import Derived.Test.YtknjcdlknnfhaaaDoorRefTx
import Derived.Test.YtknjcdlknnfhaaaDoorRows
import Derived.Lib.LaidTab
import Derived.OpenShut
namespace Go.Proofs.YtknjcdlknnfhaaaDoor
open Go.RowKit Croft

theorem pow_of {W : World} {g : Nat} {t : TypeId} {cs : Array Value} {fuel : Nat} {p : List MemPlace} {enc : TypeId × Value → Unit} {sp : Nat → Bool} {held : Bool} {base : Nat} (hg : Tryd.prog.globalNamed "internal/strconv.uint64pow10" = some g) (ht : (Tryd.prog.globals[g]?).map (·.type) = some t) (hv : W.var? Tryd.prog "internal/strconv.uint64pow10" = some cs)
    (hd : DataW.trod enc Tryd.prog W base sp held fuel t cs.toList = some (Rows.laid_internal_strconv_uint64pow10, p)) : Lib.TabIs Tryd.prog W "internal/strconv.uint64pow10" .u64 Lib.pow10Tab := by
  obtain rfl := Option.some.inj ((show Tryd.prog.globalNamed "internal/strconv.uint64pow10" = some 1 by kernel_rfl).symm.trans hg)
  obtain rfl := Option.some.inj ((show (Tryd.prog.globals[1]?).map (·.type) = some 131 by kernel_rfl).symm.trans ht)
  unfold Lib.TabIs
  rw [hv, ← Lib.cells_of_tab Tryd.underlying131 Tryd.underlying40 (by kernel_rfl) (by kernel_rfl) (show DataW.trod enc Tryd.prog W base sp held fuel _ cs.toList = some (Lib.tabData .u64 Lib.pow10Tab, p) from hd)]
theorem verbs_of {W : World} {g : Nat} {t : TypeId} {cs : Array Value} {fuel : Nat} {p : List MemPlace} {enc : TypeId × Value → Unit} {sp : Nat → Bool} {held : Bool} {base : Nat} (hg : Tryd.prog.globalNamed "sharecroft/croftref.verbs" = some g) (ht : (Tryd.prog.globals[g]?).map (·.type) = some t) (hv : W.var? Tryd.prog "sharecroft/croftref.verbs" = some cs)
    (hd : DataW.trod enc Tryd.prog W base sp held fuel t cs.toList = some (Rows.laid_sharecroft_croftref_verbs, p)) : Verbs W := by
  have hg' := hg
  obtain rfl := Option.some.inj ((show Tryd.prog.globalNamed "sharecroft/croftref.verbs" = some 0 by kernel_rfl).symm.trans hg)
  obtain rfl := Option.some.inj ((show (Tryd.prog.globals[0]?).map (·.type) = some 61 by kernel_rfl).symm.trans ht)
  obtain ⟨xs, m, rfl, hx, hlen, hn, hel⟩ := DataW.trod_array Tryd.underlying61 hd
  have ce : Tryd.prog.cellsOf 9 = 1 := by kernel_rfl
  have ca : Tryd.prog.cellsOf 61 = 7 := by kernel_rfl
  have hx1 := congrArg Prod.fst hx
  simp only [Rows.laid_sharecroft_croftref_verbs, DataW.agg.injEq] at hx1
  intro k h1 h6
  rw [World.var?_cell hg' hv k]
  have hk := hel k (by omega)
  rw [ce, Nat.mul_one] at hk
  rw [ca] at hlen
  obtain ⟨x, hxk⟩ : ∃ x, xs[k]? = some x := ⟨xs[k]'(by omega), List.getElem?_eq_getElem (by omega)⟩
  rw [hxk] at hk
  obtain ⟨s, hc, rfl, _⟩ := DataW.trod_string Tryd.underlying9 hk
  have hcell : cs[k]? = some (.string s) := by
    have := congrArg (·[0]?) hc
    simpa [List.getElem?_take, List.getElem?_drop] using this
  rw [hcell]
  have hm : (xs.map (·.1))[k]? = some (.lit (.string s.data.toList)) := by simp [hxk]
  rw [← hx1] at hm
  have hs : s = bs (wordL k) := by
    apply ByteArray.ext
    apply Array.toList_inj.1
    obtain rfl | rfl | rfl | rfl | rfl | rfl : k = 1 ∨ k = 2 ∨ k = 3 ∨ k = 4 ∨ k = 5 ∨ k = 6 := by omega
    all_goals
      simp at hm
      rw [← hm]
      rfl
  rw [hs]
end Go.Proofs.YtknjcdlknnfhaaaDoor
