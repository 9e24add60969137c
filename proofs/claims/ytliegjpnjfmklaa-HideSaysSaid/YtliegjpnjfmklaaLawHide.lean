/- The law HideSays, walked: all parts. -/
import Derived.Test.YtliegjpnjfmklaaLawHideA
import Derived.Test.YtliegjpnjfmklaaLawHideB
import Derived.Test.YtliegjpnjfmklaaLawHideC
import Derived.Test.YtliegjpnjfmklaaLawHideD
import Derived.Test.YtliegjpnjfmklaaLawHideE
import Derived.Test.YtliegjpnjfmklaaLawHideF
import Derived.Test.YtliegjpnjfmklaaLawHideG
namespace Go.Proofs.Ytliegjpnjfmklaa
open Go.RowKit Croft

theorem hideSays_any (t : Int) (frm to : Int) (va vd : Value) (zs ds : List Int) (w : World) (hf : U64 frm) (hto : U64 to) (h1 : IsInts w va zs) (h2 : IsNums w vd ds) :
    Calls Try.prog 8 #[va, .int .i64 t, .int .u64 frm, .int .u64 to, vd] w fun e w' => e = .returned (.bool true) ∧ Below w.heap.size w w' := by
  cases hp : partyB zs with
  | false => exact hideSays_form t frm to va vd zs ds w hf hto h1 h2 hp
  | true =>
    by_cases hd : (ds.length : Int) ≤ 4
    · by_cases hz : (ds.length : Int) < zs.length
      · skip
        by_cases ht : 0 ≤ t ∧ t ≤ 4
        · by_cases hm : (zs.length : Int) ≤ t
          · by_cases hn : (ds.length : Int) = needN t
            · by_cases h1t : 1 ≤ t
              · exact hideSays_few_ok t frm to va vd zs ds w hf hto h1 h2 hp hd hz ht hm hn h1t
              · exact hideSays_few_ok0 t frm to va vd zs ds w hf hto h1 h2 hp hd hz ht hm hn (by omega)
            · exact hideSays_few_draws t frm to va vd zs ds w hf hto h1 h2 hp hd hz ht hm hn
          · exact hideSays_few_many t frm to va vd zs ds w hf hto h1 h2 hp hd hz ht (by omega)
        · exact hideSays_few_out t frm to va vd zs ds w hf hto h1 h2 hp hd hz ht
      · have hd' : ds.length ≤ 4 := by omega
        have hz' : zs.length ≤ ds.length := by omega
        by_cases ht : 0 ≤ t ∧ t ≤ 4
        · by_cases hm : (zs.length : Int) ≤ t
          · by_cases hn : (ds.length : Int) = needN t
            · by_cases h1t : 1 ≤ t
              · exact hideSays_ok_ok t frm to va vd zs ds w hf hto h1 h2 hp hd' hz' ht hm hn h1t
              · exact hideSays_ok_ok0 t frm to va vd zs ds w hf hto h1 h2 hp hd' hz' ht hm hn (by omega)
            · exact hideSays_ok_draws t frm to va vd zs ds w hf hto h1 h2 hp hd' hz' ht hm hn
          · exact hideSays_ok_many t frm to va vd zs ds w hf hto h1 h2 hp hd' hz' ht (by omega)
        · exact hideSays_ok_out t frm to va vd zs ds w hf hto h1 h2 hp hd' hz' ht
    · have hd' : (ds.length : Int) > 4 := by omega
      by_cases ht : 0 ≤ t ∧ t ≤ 4
      · by_cases hm : (zs.length : Int) ≤ t
        · by_cases hn : (ds.length : Int) = needN t
          · by_cases h1t : 1 ≤ t
            · exact hideSays_big_ok t frm to va vd zs ds w hf hto h1 h2 hp hd' ht hm hn h1t
            · exact hideSays_big_ok0 t frm to va vd zs ds w hf hto h1 h2 hp hd' ht hm hn (by omega)
          · exact hideSays_big_draws t frm to va vd zs ds w hf hto h1 h2 hp hd' ht hm hn
        · exact hideSays_big_many t frm to va vd zs ds w hf hto h1 h2 hp hd' ht (by omega)
      · exact hideSays_big_out t frm to va vd zs ds w hf hto h1 h2 hp hd' ht
end Go.Proofs.Ytliegjpnjfmklaa
