/-
  No cell of these rows narrows 'for every input' (looked for: loops, veiled, ifaces, maps, wideKeys, modest, calm, conditions, laid).
  DERIVED. THE GIVEN ROWS OF THIS SEAT. 12 by the template 'for every input the law returns true; each argument reads behind the call as it read before'; 0 by the template 'total and deterministic' (their statements: YtliegjpnjfmklaaTotals.lean).
  GIVEN WITH THE SEED: the statements are not yours to turn. If you find one false, say at which input.
  Laid BY PROGRAM, IN A SANDBOX (cutbox-rows.mjs): the forced cells as the released guide's own fill.sh prints them over the translation 15697f0f5c3bfaae… (all of the seat's roots in one cut). By AI agents, Wed Nov 11 2026. No macro, syntax, notation, axiom, sorry.
-/
import Derived.Test.YtliegjpnjfmklaaChecked
import GoSem.Claim
import GoSem.ClaimJoined
import GoSem.ClaimMapViews
import Derived.JoinedTies
import Derived.KernelRfl
namespace Go.Proofs.Ytliegjpnjfmklaa
/- THE CELL 'sum', in the pinned program and in every row, IS THE sha256 OF THE DUMP (.gsa) THAT YtliegjpnjfmklaaProg.lean LOADS. Nothing in Lean hashes anything: it is a label: what it is worth is what the hold of that sum in a sandbox is worth. -/
noncomputable def Try.pinned : Pinned := { name := "ytliegjpnjfmklaa", sum := "15697f0f5c3bfaae22d41250bf49fc39ec23b5f0a23537aead102e8fbdd8eb1d", checked := Try.checked }
namespace Rows
def none {H : Type} : Left H := { results := [], args := [] }

/-- 'crofttop.TopRight': WHATEVER THE INPUT: true; the input reads as it did. -/
def topRightSpec : ChangeSpec := { name := "topRight", fn := fun _ => fun
  | [d1, d2, d3, d4, d5] => { results := [.lit (.bool true)], args := [d1, d2, d3, d4, d5] }
  | _ => none }
def topRightRow : OpenClaim := { program := "ytliegjpnjfmklaa", sum := "15697f0f5c3bfaae22d41250bf49fc39ec23b5f0a23537aead102e8fbdd8eb1d", func := "sharecroft/crofttop.TopRight", spec := "topRight", unfollowed := true, recurses := true, apart := false }
def TopRightSaid : Prop := topRightRow.holds Try.pinned (OpenSpec.ofChange topRightSpec)

/-- ITS FALSE NEIGHBOUR: 'it returns false'. Refute it at one input. -/
def topRightWrong : ChangeSpec := { name := "topRight", fn := fun _ => fun
  | [d1, d2, d3, d4, d5] => { results := [.lit (.bool false)], args := [d1, d2, d3, d4, d5] }
  | _ => none }
def TopRightWrongFalsely : Prop := topRightRow.holds Try.pinned (OpenSpec.ofChange topRightWrong)

/-- 'croftlaw.SolveSays': WHATEVER THE INPUT: true; the input reads as it did. -/
def solveSaysSpec : ChangeSpec := { name := "solveSays", fn := fun _ => fun
  | [d1, d2] => { results := [.lit (.bool true)], args := [d1, d2] }
  | _ => none }
def solveSaysRow : OpenClaim := { program := "ytliegjpnjfmklaa", sum := "15697f0f5c3bfaae22d41250bf49fc39ec23b5f0a23537aead102e8fbdd8eb1d", func := "sharecroft/croftlaw.SolveSays", spec := "solveSays", unfollowed := true, recurses := true, apart := false }
def SolveSaysSaid : Prop := solveSaysRow.holds Try.pinned (OpenSpec.ofChange solveSaysSpec)

/-- ITS FALSE NEIGHBOUR: 'it returns false'. Refute it at one input. -/
def solveSaysWrong : ChangeSpec := { name := "solveSays", fn := fun _ => fun
  | [d1, d2] => { results := [.lit (.bool false)], args := [d1, d2] }
  | _ => none }
def SolveSaysWrongFalsely : Prop := solveSaysRow.holds Try.pinned (OpenSpec.ofChange solveSaysWrong)

/-- 'croftkeep.SolveFinds': WHATEVER THE INPUT: true; the input reads as it did. -/
def solveFindsSpec : ChangeSpec := { name := "solveFinds", fn := fun _ => fun
  | [d1, d2, d3, d4] => { results := [.lit (.bool true)], args := [d1, d2, d3, d4] }
  | _ => none }
def solveFindsRow : OpenClaim := { program := "ytliegjpnjfmklaa", sum := "15697f0f5c3bfaae22d41250bf49fc39ec23b5f0a23537aead102e8fbdd8eb1d", func := "sharecroft/croftkeep.SolveFinds", spec := "solveFinds", unfollowed := true, recurses := true, apart := false }
def SolveFindsSaid : Prop := solveFindsRow.holds Try.pinned (OpenSpec.ofChange solveFindsSpec)

/-- ITS FALSE NEIGHBOUR: 'it returns false'. Refute it at one input. -/
def solveFindsWrong : ChangeSpec := { name := "solveFinds", fn := fun _ => fun
  | [d1, d2, d3, d4] => { results := [.lit (.bool false)], args := [d1, d2, d3, d4] }
  | _ => none }
def SolveFindsWrongFalsely : Prop := solveFindsRow.holds Try.pinned (OpenSpec.ofChange solveFindsWrong)

/-- 'croftkeep.ShamirTells': WHATEVER THE INPUT: true; the input reads as it did. -/
def shamirTellsSpec : ChangeSpec := { name := "shamirTells", fn := fun _ => fun
  | [d1, d2, d3, d4, d5, d6] => { results := [.lit (.bool true)], args := [d1, d2, d3, d4, d5, d6] }
  | _ => none }
def shamirTellsRow : OpenClaim := { program := "ytliegjpnjfmklaa", sum := "15697f0f5c3bfaae22d41250bf49fc39ec23b5f0a23537aead102e8fbdd8eb1d", func := "sharecroft/croftkeep.ShamirTells", spec := "shamirTells", apart := false }
def ShamirTellsSaid : Prop := shamirTellsRow.holds Try.pinned (OpenSpec.ofChange shamirTellsSpec)

/-- ITS FALSE NEIGHBOUR: 'it returns false'. Refute it at one input. -/
def shamirTellsWrong : ChangeSpec := { name := "shamirTells", fn := fun _ => fun
  | [d1, d2, d3, d4, d5, d6] => { results := [.lit (.bool false)], args := [d1, d2, d3, d4, d5, d6] }
  | _ => none }
def ShamirTellsWrongFalsely : Prop := shamirTellsRow.holds Try.pinned (OpenSpec.ofChange shamirTellsWrong)

/-- 'croftlaw.GateMuls': WHATEVER THE INPUT: true; the input reads as it did. -/
def gateMulsSpec : ChangeSpec := { name := "gateMuls", fn := fun _ => fun
  | [d1, d2, d3, d4] => { results := [.lit (.bool true)], args := [d1, d2, d3, d4] }
  | _ => none }
def gateMulsRow : OpenClaim := { program := "ytliegjpnjfmklaa", sum := "15697f0f5c3bfaae22d41250bf49fc39ec23b5f0a23537aead102e8fbdd8eb1d", func := "sharecroft/croftlaw.GateMuls", spec := "gateMuls", unfollowed := true, recurses := true, apart := false }
def GateMulsSaid : Prop := gateMulsRow.holds Try.pinned (OpenSpec.ofChange gateMulsSpec)

/-- ITS FALSE NEIGHBOUR: 'it returns false'. Refute it at one input. -/
def gateMulsWrong : ChangeSpec := { name := "gateMuls", fn := fun _ => fun
  | [d1, d2, d3, d4] => { results := [.lit (.bool false)], args := [d1, d2, d3, d4] }
  | _ => none }
def GateMulsWrongFalsely : Prop := gateMulsRow.holds Try.pinned (OpenSpec.ofChange gateMulsWrong)

/-- 'croftlaw.HideSays': WHATEVER THE INPUT: true; the input reads as it did. -/
def hideSaysSpec : ChangeSpec := { name := "hideSays", fn := fun _ => fun
  | [d1, d2, d3, d4, d5] => { results := [.lit (.bool true)], args := [d1, d2, d3, d4, d5] }
  | _ => none }
def hideSaysRow : OpenClaim := { program := "ytliegjpnjfmklaa", sum := "15697f0f5c3bfaae22d41250bf49fc39ec23b5f0a23537aead102e8fbdd8eb1d", func := "sharecroft/croftlaw.HideSays", spec := "hideSays", apart := false }
def HideSaysSaid : Prop := hideSaysRow.holds Try.pinned (OpenSpec.ofChange hideSaysSpec)

/-- ITS FALSE NEIGHBOUR: 'it returns false'. Refute it at one input. -/
def hideSaysWrong : ChangeSpec := { name := "hideSays", fn := fun _ => fun
  | [d1, d2, d3, d4, d5] => { results := [.lit (.bool false)], args := [d1, d2, d3, d4, d5] }
  | _ => none }
def HideSaysWrongFalsely : Prop := hideSaysRow.holds Try.pinned (OpenSpec.ofChange hideSaysWrong)

/-- 'croftkeep.GateLinear': WHATEVER THE INPUT: true; the input reads as it did. -/
def gateLinearSpec : ChangeSpec := { name := "gateLinear", fn := fun _ => fun
  | [d1, d2, d3, d4, d5, d6, d7] => { results := [.lit (.bool true)], args := [d1, d2, d3, d4, d5, d6, d7] }
  | _ => none }
def gateLinearRow : OpenClaim := { program := "ytliegjpnjfmklaa", sum := "15697f0f5c3bfaae22d41250bf49fc39ec23b5f0a23537aead102e8fbdd8eb1d", func := "sharecroft/croftkeep.GateLinear", spec := "gateLinear", unfollowed := true, recurses := true, apart := false }
def GateLinearSaid : Prop := gateLinearRow.holds Try.pinned (OpenSpec.ofChange gateLinearSpec)

/-- ITS FALSE NEIGHBOUR: 'it returns false'. Refute it at one input. -/
def gateLinearWrong : ChangeSpec := { name := "gateLinear", fn := fun _ => fun
  | [d1, d2, d3, d4, d5, d6, d7] => { results := [.lit (.bool false)], args := [d1, d2, d3, d4, d5, d6, d7] }
  | _ => none }
def GateLinearWrongFalsely : Prop := gateLinearRow.holds Try.pinned (OpenSpec.ofChange gateLinearWrong)

/-- 'croftkeep.ShamirAny': WHATEVER THE INPUT: true; the input reads as it did. -/
def shamirAnySpec : ChangeSpec := { name := "shamirAny", fn := fun _ => fun
  | [d1, d2, d3, d4, d5, d6] => { results := [.lit (.bool true)], args := [d1, d2, d3, d4, d5, d6] }
  | _ => none }
def shamirAnyRow : OpenClaim := { program := "ytliegjpnjfmklaa", sum := "15697f0f5c3bfaae22d41250bf49fc39ec23b5f0a23537aead102e8fbdd8eb1d", func := "sharecroft/croftkeep.ShamirAny", spec := "shamirAny", apart := false }
def ShamirAnySaid : Prop := shamirAnyRow.holds Try.pinned (OpenSpec.ofChange shamirAnySpec)

/-- ITS FALSE NEIGHBOUR: 'it returns false'. Refute it at one input. -/
def shamirAnyWrong : ChangeSpec := { name := "shamirAny", fn := fun _ => fun
  | [d1, d2, d3, d4, d5, d6] => { results := [.lit (.bool false)], args := [d1, d2, d3, d4, d5, d6] }
  | _ => none }
def ShamirAnyWrongFalsely : Prop := shamirAnyRow.holds Try.pinned (OpenSpec.ofChange shamirAnyWrong)

/-- 'croftkeep.ShamirHides': WHATEVER THE INPUT: true; the input reads as it did. -/
def shamirHidesSpec : ChangeSpec := { name := "shamirHides", fn := fun _ => fun
  | [d1, d2, d3, d4, d5, d6] => { results := [.lit (.bool true)], args := [d1, d2, d3, d4, d5, d6] }
  | _ => none }
def shamirHidesRow : OpenClaim := { program := "ytliegjpnjfmklaa", sum := "15697f0f5c3bfaae22d41250bf49fc39ec23b5f0a23537aead102e8fbdd8eb1d", func := "sharecroft/croftkeep.ShamirHides", spec := "shamirHides", apart := false }
def ShamirHidesSaid : Prop := shamirHidesRow.holds Try.pinned (OpenSpec.ofChange shamirHidesSpec)

/-- ITS FALSE NEIGHBOUR: 'it returns false'. Refute it at one input. -/
def shamirHidesWrong : ChangeSpec := { name := "shamirHides", fn := fun _ => fun
  | [d1, d2, d3, d4, d5, d6] => { results := [.lit (.bool false)], args := [d1, d2, d3, d4, d5, d6] }
  | _ => none }
def ShamirHidesWrongFalsely : Prop := shamirHidesRow.holds Try.pinned (OpenSpec.ofChange shamirHidesWrong)

/-- 'croftkeep.GateTimes': WHATEVER THE INPUT: true; the input reads as it did. -/
def gateTimesSpec : ChangeSpec := { name := "gateTimes", fn := fun _ => fun
  | [d1, d2, d3, d4, d5, d6, d7] => { results := [.lit (.bool true)], args := [d1, d2, d3, d4, d5, d6, d7] }
  | _ => none }
def gateTimesRow : OpenClaim := { program := "ytliegjpnjfmklaa", sum := "15697f0f5c3bfaae22d41250bf49fc39ec23b5f0a23537aead102e8fbdd8eb1d", func := "sharecroft/croftkeep.GateTimes", spec := "gateTimes", apart := false }
def GateTimesSaid : Prop := gateTimesRow.holds Try.pinned (OpenSpec.ofChange gateTimesSpec)

/-- ITS FALSE NEIGHBOUR: 'it returns false'. Refute it at one input. -/
def gateTimesWrong : ChangeSpec := { name := "gateTimes", fn := fun _ => fun
  | [d1, d2, d3, d4, d5, d6, d7] => { results := [.lit (.bool false)], args := [d1, d2, d3, d4, d5, d6, d7] }
  | _ => none }
def GateTimesWrongFalsely : Prop := gateTimesRow.holds Try.pinned (OpenSpec.ofChange gateTimesWrong)

/-- 'croftlaw.EngineSays': WHATEVER THE INPUT: true; the input reads as it did. -/
def engineSaysSpec : ChangeSpec := { name := "engineSays", fn := fun _ => fun
  | [d1, d2, d3, d4, d5] => { results := [.lit (.bool true)], args := [d1, d2, d3, d4, d5] }
  | _ => none }
def engineSaysRow : OpenClaim := { program := "ytliegjpnjfmklaa", sum := "15697f0f5c3bfaae22d41250bf49fc39ec23b5f0a23537aead102e8fbdd8eb1d", func := "sharecroft/croftlaw.EngineSays", spec := "engineSays", unfollowed := true, recurses := true, apart := false }
def EngineSaysSaid : Prop := engineSaysRow.holds Try.pinned (OpenSpec.ofChange engineSaysSpec)

/-- ITS FALSE NEIGHBOUR: 'it returns false'. Refute it at one input. -/
def engineSaysWrong : ChangeSpec := { name := "engineSays", fn := fun _ => fun
  | [d1, d2, d3, d4, d5] => { results := [.lit (.bool false)], args := [d1, d2, d3, d4, d5] }
  | _ => none }
def EngineSaysWrongFalsely : Prop := engineSaysRow.holds Try.pinned (OpenSpec.ofChange engineSaysWrong)

/-- 'croftkeep.EngineDraws': WHATEVER THE INPUT: true; the input reads as it did. -/
def engineDrawsSpec : ChangeSpec := { name := "engineDraws", fn := fun _ => fun
  | [d1, d2, d3, d4, d5, d6] => { results := [.lit (.bool true)], args := [d1, d2, d3, d4, d5, d6] }
  | _ => none }
def engineDrawsRow : OpenClaim := { program := "ytliegjpnjfmklaa", sum := "15697f0f5c3bfaae22d41250bf49fc39ec23b5f0a23537aead102e8fbdd8eb1d", func := "sharecroft/croftkeep.EngineDraws", spec := "engineDraws", unfollowed := true, recurses := true, apart := false }
def EngineDrawsSaid : Prop := engineDrawsRow.holds Try.pinned (OpenSpec.ofChange engineDrawsSpec)

/-- ITS FALSE NEIGHBOUR: 'it returns false'. Refute it at one input. -/
def engineDrawsWrong : ChangeSpec := { name := "engineDraws", fn := fun _ => fun
  | [d1, d2, d3, d4, d5, d6] => { results := [.lit (.bool false)], args := [d1, d2, d3, d4, d5, d6] }
  | _ => none }
def EngineDrawsWrongFalsely : Prop := engineDrawsRow.holds Try.pinned (OpenSpec.ofChange engineDrawsWrong)

/- THE SECOND FORM. 'bulk': how many values and letters a reading holds, each counted each time it is reached (what is shared counts as often as it is met; a slice's spare places count too). A statement '..UptoSaid' is the law's where the arguments, and the package variables that the reading takes, are together of bulk at most 1048576: NARROWER than '..Said'. Prove '..Said' where nothing that the law and all that it calls make is longer than what came in: it says more and counts as full. Else prove '..UptoSaid'. A law counts once. -/
mutual
def uptoBulk {H : Type} : DataW H → Nat
  | .lit (.string bytes) => bytes.length + 1
  | .lit _ => 1
  | .nil => 1
  | .ptr d => uptoBulk d + 1
  | .slice elems spare => uptoBulkAll elems + uptoBulkAll spare + 1
  | .agg parts => uptoBulkAll parts + 1
  | .iface _ d => uptoBulk d + 1
  | .map entries => uptoBulkEntries entries + 1
  | .held _ => 1
def uptoBulkAll {H : Type} : List (DataW H) → Nat
  | [] => 0
  | d :: r => uptoBulk d + uptoBulkAll r
def uptoBulkEntries {H : Type} : List (Lit × DataW H) → Nat
  | [] => 0
  | x :: r => uptoBulkEntry x + uptoBulkEntries r
def uptoBulkEntry {H : Type} : Lit × DataW H → Nat
  | (.string bytes, d) => bytes.length + uptoBulk d + 1
  | (_, d) => uptoBulk d + 1
 end
def uptoSmall : (H : Type) → List (DataW H) → Bool := fun _ ds => decide (uptoBulkAll ds ≤ 1048576)
def OpenSpec.upto (s : _root_.Go.ChangeSpec) : _root_.Go.OpenSpec := { _root_.Go.OpenSpec.ofChange s with cond := some uptoSmall }

/-- 'crofttop.TopRight', WHERE WHAT IT READS IS OF BULK AT MOST 1048576: true; the input reads as it did. -/
def topRightUptoRow : OpenClaim := { program := "ytliegjpnjfmklaa", sum := "15697f0f5c3bfaae22d41250bf49fc39ec23b5f0a23537aead102e8fbdd8eb1d", func := "sharecroft/crofttop.TopRight", spec := "topRight", unfollowed := true, recurses := true, apart := false, narrowed := true }
def TopRightUptoSaid : Prop := topRightUptoRow.holds Try.pinned (OpenSpec.upto topRightSpec)

/-- 'croftlaw.SolveSays', WHERE WHAT IT READS IS OF BULK AT MOST 1048576: true; the input reads as it did. -/
def solveSaysUptoRow : OpenClaim := { program := "ytliegjpnjfmklaa", sum := "15697f0f5c3bfaae22d41250bf49fc39ec23b5f0a23537aead102e8fbdd8eb1d", func := "sharecroft/croftlaw.SolveSays", spec := "solveSays", unfollowed := true, recurses := true, apart := false, narrowed := true }
def SolveSaysUptoSaid : Prop := solveSaysUptoRow.holds Try.pinned (OpenSpec.upto solveSaysSpec)

/-- 'croftkeep.SolveFinds', WHERE WHAT IT READS IS OF BULK AT MOST 1048576: true; the input reads as it did. -/
def solveFindsUptoRow : OpenClaim := { program := "ytliegjpnjfmklaa", sum := "15697f0f5c3bfaae22d41250bf49fc39ec23b5f0a23537aead102e8fbdd8eb1d", func := "sharecroft/croftkeep.SolveFinds", spec := "solveFinds", unfollowed := true, recurses := true, apart := false, narrowed := true }
def SolveFindsUptoSaid : Prop := solveFindsUptoRow.holds Try.pinned (OpenSpec.upto solveFindsSpec)

/-- 'croftkeep.ShamirTells', WHERE WHAT IT READS IS OF BULK AT MOST 1048576: true; the input reads as it did. -/
def shamirTellsUptoRow : OpenClaim := { program := "ytliegjpnjfmklaa", sum := "15697f0f5c3bfaae22d41250bf49fc39ec23b5f0a23537aead102e8fbdd8eb1d", func := "sharecroft/croftkeep.ShamirTells", spec := "shamirTells", apart := false, narrowed := true }
def ShamirTellsUptoSaid : Prop := shamirTellsUptoRow.holds Try.pinned (OpenSpec.upto shamirTellsSpec)

/-- 'croftlaw.GateMuls', WHERE WHAT IT READS IS OF BULK AT MOST 1048576: true; the input reads as it did. -/
def gateMulsUptoRow : OpenClaim := { program := "ytliegjpnjfmklaa", sum := "15697f0f5c3bfaae22d41250bf49fc39ec23b5f0a23537aead102e8fbdd8eb1d", func := "sharecroft/croftlaw.GateMuls", spec := "gateMuls", unfollowed := true, recurses := true, apart := false, narrowed := true }
def GateMulsUptoSaid : Prop := gateMulsUptoRow.holds Try.pinned (OpenSpec.upto gateMulsSpec)

/-- 'croftlaw.HideSays', WHERE WHAT IT READS IS OF BULK AT MOST 1048576: true; the input reads as it did. -/
def hideSaysUptoRow : OpenClaim := { program := "ytliegjpnjfmklaa", sum := "15697f0f5c3bfaae22d41250bf49fc39ec23b5f0a23537aead102e8fbdd8eb1d", func := "sharecroft/croftlaw.HideSays", spec := "hideSays", apart := false, narrowed := true }
def HideSaysUptoSaid : Prop := hideSaysUptoRow.holds Try.pinned (OpenSpec.upto hideSaysSpec)

/-- 'croftkeep.GateLinear', WHERE WHAT IT READS IS OF BULK AT MOST 1048576: true; the input reads as it did. -/
def gateLinearUptoRow : OpenClaim := { program := "ytliegjpnjfmklaa", sum := "15697f0f5c3bfaae22d41250bf49fc39ec23b5f0a23537aead102e8fbdd8eb1d", func := "sharecroft/croftkeep.GateLinear", spec := "gateLinear", unfollowed := true, recurses := true, apart := false, narrowed := true }
def GateLinearUptoSaid : Prop := gateLinearUptoRow.holds Try.pinned (OpenSpec.upto gateLinearSpec)

/-- 'croftkeep.ShamirAny', WHERE WHAT IT READS IS OF BULK AT MOST 1048576: true; the input reads as it did. -/
def shamirAnyUptoRow : OpenClaim := { program := "ytliegjpnjfmklaa", sum := "15697f0f5c3bfaae22d41250bf49fc39ec23b5f0a23537aead102e8fbdd8eb1d", func := "sharecroft/croftkeep.ShamirAny", spec := "shamirAny", apart := false, narrowed := true }
def ShamirAnyUptoSaid : Prop := shamirAnyUptoRow.holds Try.pinned (OpenSpec.upto shamirAnySpec)

/-- 'croftkeep.ShamirHides', WHERE WHAT IT READS IS OF BULK AT MOST 1048576: true; the input reads as it did. -/
def shamirHidesUptoRow : OpenClaim := { program := "ytliegjpnjfmklaa", sum := "15697f0f5c3bfaae22d41250bf49fc39ec23b5f0a23537aead102e8fbdd8eb1d", func := "sharecroft/croftkeep.ShamirHides", spec := "shamirHides", apart := false, narrowed := true }
def ShamirHidesUptoSaid : Prop := shamirHidesUptoRow.holds Try.pinned (OpenSpec.upto shamirHidesSpec)

/-- 'croftkeep.GateTimes', WHERE WHAT IT READS IS OF BULK AT MOST 1048576: true; the input reads as it did. -/
def gateTimesUptoRow : OpenClaim := { program := "ytliegjpnjfmklaa", sum := "15697f0f5c3bfaae22d41250bf49fc39ec23b5f0a23537aead102e8fbdd8eb1d", func := "sharecroft/croftkeep.GateTimes", spec := "gateTimes", apart := false, narrowed := true }
def GateTimesUptoSaid : Prop := gateTimesUptoRow.holds Try.pinned (OpenSpec.upto gateTimesSpec)

/-- 'croftlaw.EngineSays', WHERE WHAT IT READS IS OF BULK AT MOST 1048576: true; the input reads as it did. -/
def engineSaysUptoRow : OpenClaim := { program := "ytliegjpnjfmklaa", sum := "15697f0f5c3bfaae22d41250bf49fc39ec23b5f0a23537aead102e8fbdd8eb1d", func := "sharecroft/croftlaw.EngineSays", spec := "engineSays", unfollowed := true, recurses := true, apart := false, narrowed := true }
def EngineSaysUptoSaid : Prop := engineSaysUptoRow.holds Try.pinned (OpenSpec.upto engineSaysSpec)

/-- 'croftkeep.EngineDraws', WHERE WHAT IT READS IS OF BULK AT MOST 1048576: true; the input reads as it did. -/
def engineDrawsUptoRow : OpenClaim := { program := "ytliegjpnjfmklaa", sum := "15697f0f5c3bfaae22d41250bf49fc39ec23b5f0a23537aead102e8fbdd8eb1d", func := "sharecroft/croftkeep.EngineDraws", spec := "engineDraws", unfollowed := true, recurses := true, apart := false, narrowed := true }
def EngineDrawsUptoSaid : Prop := engineDrawsUptoRow.holds Try.pinned (OpenSpec.upto engineDrawsSpec)

end Rows
end Go.Proofs.Ytliegjpnjfmklaa
