/-
  No cell of these rows narrows 'for every input' (looked for: loops, veiled, ifaces, maps, wideKeys, modest, calm, conditions, laid).
  DERIVED. THE GIVEN ROWS OF THIS SEAT. 12 by the template 'for every input the law returns true; each argument reads behind the call as it read before'; 0 by the template 'total and deterministic' (their statements: YtnojmphggdndmaaTotals.lean).
  GIVEN WITH THE SEED: the statements are not yours to turn. If you find one false, say at which input.
  Laid BY PROGRAM, IN A SANDBOX (cutbox-rows.mjs): the forced cells as the released guide's own fill.sh prints them over the translation ea21a9c7313956c8… (all of the seat's roots in one cut). By AI agents, Wed Nov 11 2026. No macro, syntax, notation, axiom, sorry.
-/
import Derived.Test.YtnojmphggdndmaaChecked
import GoSem.Claim
import GoSem.ClaimJoined
import GoSem.ClaimMapViews
import Derived.JoinedTies
import Derived.KernelRfl
namespace Go.Proofs.Ytnojmphggdndmaa
/- THE CELL 'sum', in the pinned program and in every row, IS THE sha256 OF THE DUMP (.gsa) THAT YtnojmphggdndmaaProg.lean LOADS. Nothing in Lean hashes anything: it is a label: what it is worth is what the hold of that sum in a sandbox is worth. -/
noncomputable def Try.pinned : Pinned := { name := "ytnojmphggdndmaa", sum := "ea21a9c7313956c8b379da8d94038fa2312549ba0d7126199004c88f603fc52c", checked := Try.checked }
namespace Rows
def none {H : Type} : Left H := { results := [], args := [] }

/-- 'croftlaw.Names': WHATEVER THE INPUT: true; the input reads as it did. -/
def namesSpec : ChangeSpec := { name := "names", fn := fun _ => fun
  | [] => { results := [.lit (.bool true)], args := [] }
  | _ => none }
def namesRow : OpenClaim := { program := "ytnojmphggdndmaa", sum := "ea21a9c7313956c8b379da8d94038fa2312549ba0d7126199004c88f603fc52c", func := "sharecroft/croftlaw.Names", spec := "names", apart := false }
def NamesSaid : Prop := namesRow.holds Try.pinned (OpenSpec.ofChange namesSpec)

/-- ITS FALSE NEIGHBOUR: 'it returns false'. Refute it at one input. -/
def namesWrong : ChangeSpec := { name := "names", fn := fun _ => fun
  | [] => { results := [.lit (.bool false)], args := [] }
  | _ => none }
def NamesWrongFalsely : Prop := namesRow.holds Try.pinned (OpenSpec.ofChange namesWrong)

/-- 'croftlaw.FieldSays': WHATEVER THE INPUT: true; the input reads as it did. -/
def fieldSaysSpec : ChangeSpec := { name := "fieldSays", fn := fun _ => fun
  | [d1, d2, d3] => { results := [.lit (.bool true)], args := [d1, d2, d3] }
  | _ => none }
def fieldSaysRow : OpenClaim := { program := "ytnojmphggdndmaa", sum := "ea21a9c7313956c8b379da8d94038fa2312549ba0d7126199004c88f603fc52c", func := "sharecroft/croftlaw.FieldSays", spec := "fieldSays", apart := false }
def FieldSaysSaid : Prop := fieldSaysRow.holds Try.pinned (OpenSpec.ofChange fieldSaysSpec)

/-- ITS FALSE NEIGHBOUR: 'it returns false'. Refute it at one input. -/
def fieldSaysWrong : ChangeSpec := { name := "fieldSays", fn := fun _ => fun
  | [d1, d2, d3] => { results := [.lit (.bool false)], args := [d1, d2, d3] }
  | _ => none }
def FieldSaysWrongFalsely : Prop := fieldSaysRow.holds Try.pinned (OpenSpec.ofChange fieldSaysWrong)

/-- 'croftkeep.FieldLaws': WHATEVER THE INPUT: true; the input reads as it did. -/
def fieldLawsSpec : ChangeSpec := { name := "fieldLaws", fn := fun _ => fun
  | [d1, d2, d3] => { results := [.lit (.bool true)], args := [d1, d2, d3] }
  | _ => none }
def fieldLawsRow : OpenClaim := { program := "ytnojmphggdndmaa", sum := "ea21a9c7313956c8b379da8d94038fa2312549ba0d7126199004c88f603fc52c", func := "sharecroft/croftkeep.FieldLaws", spec := "fieldLaws", apart := false }
def FieldLawsSaid : Prop := fieldLawsRow.holds Try.pinned (OpenSpec.ofChange fieldLawsSpec)

/-- ITS FALSE NEIGHBOUR: 'it returns false'. Refute it at one input. -/
def fieldLawsWrong : ChangeSpec := { name := "fieldLaws", fn := fun _ => fun
  | [d1, d2, d3] => { results := [.lit (.bool false)], args := [d1, d2, d3] }
  | _ => none }
def FieldLawsWrongFalsely : Prop := fieldLawsRow.holds Try.pinned (OpenSpec.ofChange fieldLawsWrong)

/-- 'croftlaw.GateSays': WHATEVER THE INPUT: true; the input reads as it did. -/
def gateSaysSpec : ChangeSpec := { name := "gateSays", fn := fun _ => fun
  | [d1, d2, d3] => { results := [.lit (.bool true)], args := [d1, d2, d3] }
  | _ => none }
def gateSaysRow : OpenClaim := { program := "ytnojmphggdndmaa", sum := "ea21a9c7313956c8b379da8d94038fa2312549ba0d7126199004c88f603fc52c", func := "sharecroft/croftlaw.GateSays", spec := "gateSays", unfollowed := true, recurses := true, apart := false }
def GateSaysSaid : Prop := gateSaysRow.holds Try.pinned (OpenSpec.ofChange gateSaysSpec)

/-- ITS FALSE NEIGHBOUR: 'it returns false'. Refute it at one input. -/
def gateSaysWrong : ChangeSpec := { name := "gateSays", fn := fun _ => fun
  | [d1, d2, d3] => { results := [.lit (.bool false)], args := [d1, d2, d3] }
  | _ => none }
def GateSaysWrongFalsely : Prop := gateSaysRow.holds Try.pinned (OpenSpec.ofChange gateSaysWrong)

/-- 'croftlaw.PolyDivides': WHATEVER THE INPUT: true; the input reads as it did. -/
def polyDividesSpec : ChangeSpec := { name := "polyDivides", fn := fun _ => fun
  | [d1, d2] => { results := [.lit (.bool true)], args := [d1, d2] }
  | _ => none }
def polyDividesRow : OpenClaim := { program := "ytnojmphggdndmaa", sum := "ea21a9c7313956c8b379da8d94038fa2312549ba0d7126199004c88f603fc52c", func := "sharecroft/croftlaw.PolyDivides", spec := "polyDivides", apart := false }
def PolyDividesSaid : Prop := polyDividesRow.holds Try.pinned (OpenSpec.ofChange polyDividesSpec)

/-- ITS FALSE NEIGHBOUR: 'it returns false'. Refute it at one input. -/
def polyDividesWrong : ChangeSpec := { name := "polyDivides", fn := fun _ => fun
  | [d1, d2] => { results := [.lit (.bool false)], args := [d1, d2] }
  | _ => none }
def PolyDividesWrongFalsely : Prop := polyDividesRow.holds Try.pinned (OpenSpec.ofChange polyDividesWrong)

/-- 'croftlaw.PolySays': WHATEVER THE INPUT: true; the input reads as it did. -/
def polySaysSpec : ChangeSpec := { name := "polySays", fn := fun _ => fun
  | [d1, d2, d3] => { results := [.lit (.bool true)], args := [d1, d2, d3] }
  | _ => none }
def polySaysRow : OpenClaim := { program := "ytnojmphggdndmaa", sum := "ea21a9c7313956c8b379da8d94038fa2312549ba0d7126199004c88f603fc52c", func := "sharecroft/croftlaw.PolySays", spec := "polySays", apart := false }
def PolySaysSaid : Prop := polySaysRow.holds Try.pinned (OpenSpec.ofChange polySaysSpec)

/-- ITS FALSE NEIGHBOUR: 'it returns false'. Refute it at one input. -/
def polySaysWrong : ChangeSpec := { name := "polySays", fn := fun _ => fun
  | [d1, d2, d3] => { results := [.lit (.bool false)], args := [d1, d2, d3] }
  | _ => none }
def PolySaysWrongFalsely : Prop := polySaysRow.holds Try.pinned (OpenSpec.ofChange polySaysWrong)

/-- 'croftlaw.TwineDeals': WHATEVER THE INPUT: true; the input reads as it did. -/
def twineDealsSpec : ChangeSpec := { name := "twineDeals", fn := fun _ => fun
  | [d1, d2, d3, d4] => { results := [.lit (.bool true)], args := [d1, d2, d3, d4] }
  | _ => none }
def twineDealsRow : OpenClaim := { program := "ytnojmphggdndmaa", sum := "ea21a9c7313956c8b379da8d94038fa2312549ba0d7126199004c88f603fc52c", func := "sharecroft/croftlaw.TwineDeals", spec := "twineDeals", unfollowed := true, recurses := true, apart := false }
def TwineDealsSaid : Prop := twineDealsRow.holds Try.pinned (OpenSpec.ofChange twineDealsSpec)

/-- ITS FALSE NEIGHBOUR: 'it returns false'. Refute it at one input. -/
def twineDealsWrong : ChangeSpec := { name := "twineDeals", fn := fun _ => fun
  | [d1, d2, d3, d4] => { results := [.lit (.bool false)], args := [d1, d2, d3, d4] }
  | _ => none }
def TwineDealsWrongFalsely : Prop := twineDealsRow.holds Try.pinned (OpenSpec.ofChange twineDealsWrong)

/-- 'croftlaw.PolyThrough': WHATEVER THE INPUT: true; the input reads as it did. -/
def polyThroughSpec : ChangeSpec := { name := "polyThrough", fn := fun _ => fun
  | [d] => { results := [.lit (.bool true)], args := [d] }
  | _ => none }
def polyThroughRow : OpenClaim := { program := "ytnojmphggdndmaa", sum := "ea21a9c7313956c8b379da8d94038fa2312549ba0d7126199004c88f603fc52c", func := "sharecroft/croftlaw.PolyThrough", spec := "polyThrough", apart := false }
def PolyThroughSaid : Prop := polyThroughRow.holds Try.pinned (OpenSpec.ofChange polyThroughSpec)

/-- ITS FALSE NEIGHBOUR: 'it returns false'. Refute it at one input. -/
def polyThroughWrong : ChangeSpec := { name := "polyThrough", fn := fun _ => fun
  | [d] => { results := [.lit (.bool false)], args := [d] }
  | _ => none }
def PolyThroughWrongFalsely : Prop := polyThroughRow.holds Try.pinned (OpenSpec.ofChange polyThroughWrong)

/-- 'croftkeep.PolyPoints': WHATEVER THE INPUT: true; the input reads as it did. -/
def polyPointsSpec : ChangeSpec := { name := "polyPoints", fn := fun _ => fun
  | [d1, d2] => { results := [.lit (.bool true)], args := [d1, d2] }
  | _ => none }
def polyPointsRow : OpenClaim := { program := "ytnojmphggdndmaa", sum := "ea21a9c7313956c8b379da8d94038fa2312549ba0d7126199004c88f603fc52c", func := "sharecroft/croftkeep.PolyPoints", spec := "polyPoints", apart := false }
def PolyPointsSaid : Prop := polyPointsRow.holds Try.pinned (OpenSpec.ofChange polyPointsSpec)

/-- ITS FALSE NEIGHBOUR: 'it returns false'. Refute it at one input. -/
def polyPointsWrong : ChangeSpec := { name := "polyPoints", fn := fun _ => fun
  | [d1, d2] => { results := [.lit (.bool false)], args := [d1, d2] }
  | _ => none }
def PolyPointsWrongFalsely : Prop := polyPointsRow.holds Try.pinned (OpenSpec.ofChange polyPointsWrong)

/-- 'croftkeep.PolyRest': WHATEVER THE INPUT: true; the input reads as it did. -/
def polyRestSpec : ChangeSpec := { name := "polyRest", fn := fun _ => fun
  | [d1, d2, d3] => { results := [.lit (.bool true)], args := [d1, d2, d3] }
  | _ => none }
def polyRestRow : OpenClaim := { program := "ytnojmphggdndmaa", sum := "ea21a9c7313956c8b379da8d94038fa2312549ba0d7126199004c88f603fc52c", func := "sharecroft/croftkeep.PolyRest", spec := "polyRest", apart := false }
def PolyRestSaid : Prop := polyRestRow.holds Try.pinned (OpenSpec.ofChange polyRestSpec)

/-- ITS FALSE NEIGHBOUR: 'it returns false'. Refute it at one input. -/
def polyRestWrong : ChangeSpec := { name := "polyRest", fn := fun _ => fun
  | [d1, d2, d3] => { results := [.lit (.bool false)], args := [d1, d2, d3] }
  | _ => none }
def PolyRestWrongFalsely : Prop := polyRestRow.holds Try.pinned (OpenSpec.ofChange polyRestWrong)

/-- 'croftkeep.CircuitSums': WHATEVER THE INPUT: true; the input reads as it did. -/
def circuitSumsSpec : ChangeSpec := { name := "circuitSums", fn := fun _ => fun
  | [d1, d2, d3] => { results := [.lit (.bool true)], args := [d1, d2, d3] }
  | _ => none }
def circuitSumsRow : OpenClaim := { program := "ytnojmphggdndmaa", sum := "ea21a9c7313956c8b379da8d94038fa2312549ba0d7126199004c88f603fc52c", func := "sharecroft/croftkeep.CircuitSums", spec := "circuitSums", unfollowed := true, recurses := true, apart := false }
def CircuitSumsSaid : Prop := circuitSumsRow.holds Try.pinned (OpenSpec.ofChange circuitSumsSpec)

/-- ITS FALSE NEIGHBOUR: 'it returns false'. Refute it at one input. -/
def circuitSumsWrong : ChangeSpec := { name := "circuitSums", fn := fun _ => fun
  | [d1, d2, d3] => { results := [.lit (.bool false)], args := [d1, d2, d3] }
  | _ => none }
def CircuitSumsWrongFalsely : Prop := circuitSumsRow.holds Try.pinned (OpenSpec.ofChange circuitSumsWrong)

/-- 'crofttop.TopRight': WHATEVER THE INPUT: true; the input reads as it did. -/
def topRightSpec : ChangeSpec := { name := "topRight", fn := fun _ => fun
  | [d1, d2, d3, d4, d5] => { results := [.lit (.bool true)], args := [d1, d2, d3, d4, d5] }
  | _ => none }
def topRightRow : OpenClaim := { program := "ytnojmphggdndmaa", sum := "ea21a9c7313956c8b379da8d94038fa2312549ba0d7126199004c88f603fc52c", func := "sharecroft/crofttop.TopRight", spec := "topRight", unfollowed := true, recurses := true, apart := false }
def TopRightSaid : Prop := topRightRow.holds Try.pinned (OpenSpec.ofChange topRightSpec)

/-- ITS FALSE NEIGHBOUR: 'it returns false'. Refute it at one input. -/
def topRightWrong : ChangeSpec := { name := "topRight", fn := fun _ => fun
  | [d1, d2, d3, d4, d5] => { results := [.lit (.bool false)], args := [d1, d2, d3, d4, d5] }
  | _ => none }
def TopRightWrongFalsely : Prop := topRightRow.holds Try.pinned (OpenSpec.ofChange topRightWrong)

/- THE SECOND FORM. 'bulk': how many values and letters a reading holds, each counted each time it is reached (what is shared counts as often as it is met; a slice's spare places count too). A statement '..UptoSaid' is the law's where the arguments, and the package variables that the reading takes, are together of bulk at most 1048576: NARROWER than '..Said'. Prove '..Said' where nothing that the law and all that it calls make is longer than what came in: it says more and counts as full. Else prove '..UptoSaid'. A law counts once. -/
mutual
def uptoBulk {H : Type} : DataW H → Nat
  | .lit (.string bytes) => bytes.length + 1
  | .lit _ => 1
  | .nil => 1
  | .ptr d => uptoBulk d + 1
  | .slice elems spare => uptoBulkAll elems + uptoBulkAll spare + 1
  | .agg parts => uptoBulkAll parts + 1
  | .iface _ d => uptoBulk d + 1
  | .map entries => uptoBulkEntries entries + 1
  | .held _ => 1
def uptoBulkAll {H : Type} : List (DataW H) → Nat
  | [] => 0
  | d :: r => uptoBulk d + uptoBulkAll r
def uptoBulkEntries {H : Type} : List (Lit × DataW H) → Nat
  | [] => 0
  | x :: r => uptoBulkEntry x + uptoBulkEntries r
def uptoBulkEntry {H : Type} : Lit × DataW H → Nat
  | (.string bytes, d) => bytes.length + uptoBulk d + 1
  | (_, d) => uptoBulk d + 1
 end
def uptoSmall : (H : Type) → List (DataW H) → Bool := fun _ ds => decide (uptoBulkAll ds ≤ 1048576)
def OpenSpec.upto (s : _root_.Go.ChangeSpec) : _root_.Go.OpenSpec := { _root_.Go.OpenSpec.ofChange s with cond := some uptoSmall }

/-- 'croftlaw.Names', WHERE WHAT IT READS IS OF BULK AT MOST 1048576: true; the input reads as it did. -/
def namesUptoRow : OpenClaim := { program := "ytnojmphggdndmaa", sum := "ea21a9c7313956c8b379da8d94038fa2312549ba0d7126199004c88f603fc52c", func := "sharecroft/croftlaw.Names", spec := "names", apart := false, narrowed := true }
def NamesUptoSaid : Prop := namesUptoRow.holds Try.pinned (OpenSpec.upto namesSpec)

/-- 'croftlaw.FieldSays', WHERE WHAT IT READS IS OF BULK AT MOST 1048576: true; the input reads as it did. -/
def fieldSaysUptoRow : OpenClaim := { program := "ytnojmphggdndmaa", sum := "ea21a9c7313956c8b379da8d94038fa2312549ba0d7126199004c88f603fc52c", func := "sharecroft/croftlaw.FieldSays", spec := "fieldSays", apart := false, narrowed := true }
def FieldSaysUptoSaid : Prop := fieldSaysUptoRow.holds Try.pinned (OpenSpec.upto fieldSaysSpec)

/-- 'croftkeep.FieldLaws', WHERE WHAT IT READS IS OF BULK AT MOST 1048576: true; the input reads as it did. -/
def fieldLawsUptoRow : OpenClaim := { program := "ytnojmphggdndmaa", sum := "ea21a9c7313956c8b379da8d94038fa2312549ba0d7126199004c88f603fc52c", func := "sharecroft/croftkeep.FieldLaws", spec := "fieldLaws", apart := false, narrowed := true }
def FieldLawsUptoSaid : Prop := fieldLawsUptoRow.holds Try.pinned (OpenSpec.upto fieldLawsSpec)

/-- 'croftlaw.GateSays', WHERE WHAT IT READS IS OF BULK AT MOST 1048576: true; the input reads as it did. -/
def gateSaysUptoRow : OpenClaim := { program := "ytnojmphggdndmaa", sum := "ea21a9c7313956c8b379da8d94038fa2312549ba0d7126199004c88f603fc52c", func := "sharecroft/croftlaw.GateSays", spec := "gateSays", unfollowed := true, recurses := true, apart := false, narrowed := true }
def GateSaysUptoSaid : Prop := gateSaysUptoRow.holds Try.pinned (OpenSpec.upto gateSaysSpec)

/-- 'croftlaw.PolyDivides', WHERE WHAT IT READS IS OF BULK AT MOST 1048576: true; the input reads as it did. -/
def polyDividesUptoRow : OpenClaim := { program := "ytnojmphggdndmaa", sum := "ea21a9c7313956c8b379da8d94038fa2312549ba0d7126199004c88f603fc52c", func := "sharecroft/croftlaw.PolyDivides", spec := "polyDivides", apart := false, narrowed := true }
def PolyDividesUptoSaid : Prop := polyDividesUptoRow.holds Try.pinned (OpenSpec.upto polyDividesSpec)

/-- 'croftlaw.PolySays', WHERE WHAT IT READS IS OF BULK AT MOST 1048576: true; the input reads as it did. -/
def polySaysUptoRow : OpenClaim := { program := "ytnojmphggdndmaa", sum := "ea21a9c7313956c8b379da8d94038fa2312549ba0d7126199004c88f603fc52c", func := "sharecroft/croftlaw.PolySays", spec := "polySays", apart := false, narrowed := true }
def PolySaysUptoSaid : Prop := polySaysUptoRow.holds Try.pinned (OpenSpec.upto polySaysSpec)

/-- 'croftlaw.TwineDeals', WHERE WHAT IT READS IS OF BULK AT MOST 1048576: true; the input reads as it did. -/
def twineDealsUptoRow : OpenClaim := { program := "ytnojmphggdndmaa", sum := "ea21a9c7313956c8b379da8d94038fa2312549ba0d7126199004c88f603fc52c", func := "sharecroft/croftlaw.TwineDeals", spec := "twineDeals", unfollowed := true, recurses := true, apart := false, narrowed := true }
def TwineDealsUptoSaid : Prop := twineDealsUptoRow.holds Try.pinned (OpenSpec.upto twineDealsSpec)

/-- 'croftlaw.PolyThrough', WHERE WHAT IT READS IS OF BULK AT MOST 1048576: true; the input reads as it did. -/
def polyThroughUptoRow : OpenClaim := { program := "ytnojmphggdndmaa", sum := "ea21a9c7313956c8b379da8d94038fa2312549ba0d7126199004c88f603fc52c", func := "sharecroft/croftlaw.PolyThrough", spec := "polyThrough", apart := false, narrowed := true }
def PolyThroughUptoSaid : Prop := polyThroughUptoRow.holds Try.pinned (OpenSpec.upto polyThroughSpec)

/-- 'croftkeep.PolyPoints', WHERE WHAT IT READS IS OF BULK AT MOST 1048576: true; the input reads as it did. -/
def polyPointsUptoRow : OpenClaim := { program := "ytnojmphggdndmaa", sum := "ea21a9c7313956c8b379da8d94038fa2312549ba0d7126199004c88f603fc52c", func := "sharecroft/croftkeep.PolyPoints", spec := "polyPoints", apart := false, narrowed := true }
def PolyPointsUptoSaid : Prop := polyPointsUptoRow.holds Try.pinned (OpenSpec.upto polyPointsSpec)

/-- 'croftkeep.PolyRest', WHERE WHAT IT READS IS OF BULK AT MOST 1048576: true; the input reads as it did. -/
def polyRestUptoRow : OpenClaim := { program := "ytnojmphggdndmaa", sum := "ea21a9c7313956c8b379da8d94038fa2312549ba0d7126199004c88f603fc52c", func := "sharecroft/croftkeep.PolyRest", spec := "polyRest", apart := false, narrowed := true }
def PolyRestUptoSaid : Prop := polyRestUptoRow.holds Try.pinned (OpenSpec.upto polyRestSpec)

/-- 'croftkeep.CircuitSums', WHERE WHAT IT READS IS OF BULK AT MOST 1048576: true; the input reads as it did. -/
def circuitSumsUptoRow : OpenClaim := { program := "ytnojmphggdndmaa", sum := "ea21a9c7313956c8b379da8d94038fa2312549ba0d7126199004c88f603fc52c", func := "sharecroft/croftkeep.CircuitSums", spec := "circuitSums", unfollowed := true, recurses := true, apart := false, narrowed := true }
def CircuitSumsUptoSaid : Prop := circuitSumsUptoRow.holds Try.pinned (OpenSpec.upto circuitSumsSpec)

/-- 'crofttop.TopRight', WHERE WHAT IT READS IS OF BULK AT MOST 1048576: true; the input reads as it did. -/
def topRightUptoRow : OpenClaim := { program := "ytnojmphggdndmaa", sum := "ea21a9c7313956c8b379da8d94038fa2312549ba0d7126199004c88f603fc52c", func := "sharecroft/crofttop.TopRight", spec := "topRight", unfollowed := true, recurses := true, apart := false, narrowed := true }
def TopRightUptoSaid : Prop := topRightUptoRow.holds Try.pinned (OpenSpec.upto topRightSpec)

end Rows
end Go.Proofs.Ytnojmphggdndmaa
