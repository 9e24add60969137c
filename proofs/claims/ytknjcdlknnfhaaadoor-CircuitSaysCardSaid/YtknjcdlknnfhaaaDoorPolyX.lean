/- Package poly's own calls Norm, Mul, Eval: what each returns. -/
import Derived.Test.YtknjcdlknnfhaaaDoorPolyM
import Derived.Test.YtknjcdlknnfhaaaDoorGateW
namespace Go.Proofs.YtknjcdlknnfhaaaDoor
open Go.RowKit Croft

def mulRes (l : List F) : List Int := if 40 < l.length then [] else ofFs l
def mulErr (l : List F) : Int := if 40 < l.length then 2 else 0
end Go.Proofs.YtknjcdlknnfhaaaDoor
