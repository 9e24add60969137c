/- Package poly's own calls Norm, Mul, Eval: what each returns. -/
import Derived.Test.YtljpangeodgbkaaDoorPolyM
import Derived.Test.YtljpangeodgbkaaDoorGateW
namespace Go.Proofs.YtljpangeodgbkaaDoor
open Go.RowKit Croft

def mulRes (l : List F) : List Int := if 40 < l.length then [] else ofFs l
def mulErr (l : List F) : Int := if 40 < l.length then 2 else 0
end Go.Proofs.YtljpangeodgbkaaDoor
