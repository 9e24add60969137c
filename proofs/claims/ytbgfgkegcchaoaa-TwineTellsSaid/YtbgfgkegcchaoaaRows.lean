/-
  No cell of these rows narrows 'for every input' (looked for: loops, veiled, ifaces, maps, wideKeys, modest, calm, conditions, laid).
  DERIVED. THE GIVEN ROWS OF THIS SEAT. 10 by the template 'for every input the law returns true; each argument reads behind the call as it read before'; 0 by the template 'total and deterministic' (their statements: YtbgfgkegcchaoaaTotals.lean).
  GIVEN WITH THE SEED: the statements are not yours to turn. If you find one false, say at which input.
  Laid BY PROGRAM, IN A SANDBOX (cutbox-rows.mjs): the forced cells as the released guide's own fill.sh prints them over the translation 9fb50a6bf54b59fc… (all of the seat's roots in one cut). By AI agents, Wed Nov 11 2026. No macro, syntax, notation, axiom, sorry.
-/
import Derived.Test.YtbgfgkegcchaoaaChecked
import GoSem.Claim
import GoSem.ClaimJoined
import GoSem.ClaimMapViews
import Derived.JoinedTies
import Derived.KernelRfl
namespace Go.Proofs.Ytbgfgkegcchaoaa
/- THE CELL 'sum', in the pinned program and in every row, IS THE sha256 OF THE DUMP (.gsa) THAT YtbgfgkegcchaoaaProg.lean LOADS. Nothing in Lean hashes anything: it is a label: what it is worth is what the hold of that sum in a sandbox is worth. -/
noncomputable def Try.pinned : Pinned := { name := "ytbgfgkegcchaoaa", sum := "9fb50a6bf54b59fc1ba773dcad586502f1ee99f50725809944180ac9c097460f", checked := Try.checked }
namespace Rows
def none {H : Type} : Left H := { results := [], args := [] }

/-- 'crofttop.TopKeys': WHATEVER THE INPUT: true; the input reads as it did. -/
def topKeysSpec : ChangeSpec := { name := "topKeys", fn := fun _ => fun
  | [d1, d2, d3] => { results := [.lit (.bool true)], args := [d1, d2, d3] }
  | _ => none }
def topKeysRow : OpenClaim := { program := "ytbgfgkegcchaoaa", sum := "9fb50a6bf54b59fc1ba773dcad586502f1ee99f50725809944180ac9c097460f", func := "sharecroft/crofttop.TopKeys", spec := "topKeys", unfollowed := true, recurses := true, apart := false }
def TopKeysSaid : Prop := topKeysRow.holds Try.pinned (OpenSpec.ofChange topKeysSpec)

/-- ITS FALSE NEIGHBOUR: 'it returns false'. Refute it at one input. -/
def topKeysWrong : ChangeSpec := { name := "topKeys", fn := fun _ => fun
  | [d1, d2, d3] => { results := [.lit (.bool false)], args := [d1, d2, d3] }
  | _ => none }
def TopKeysWrongFalsely : Prop := topKeysRow.holds Try.pinned (OpenSpec.ofChange topKeysWrong)

/-- 'croftkeep.KeysReckon': WHATEVER THE INPUT: true; the input reads as it did. -/
def keysReckonSpec : ChangeSpec := { name := "keysReckon", fn := fun _ => fun
  | [d1, d2, d3, d4, d5, d6] => { results := [.lit (.bool true)], args := [d1, d2, d3, d4, d5, d6] }
  | _ => none }
def keysReckonRow : OpenClaim := { program := "ytbgfgkegcchaoaa", sum := "9fb50a6bf54b59fc1ba773dcad586502f1ee99f50725809944180ac9c097460f", func := "sharecroft/croftkeep.KeysReckon", spec := "keysReckon", unfollowed := true, recurses := true, apart := false }
def KeysReckonSaid : Prop := keysReckonRow.holds Try.pinned (OpenSpec.ofChange keysReckonSpec)

/-- ITS FALSE NEIGHBOUR: 'it returns false'. Refute it at one input. -/
def keysReckonWrong : ChangeSpec := { name := "keysReckon", fn := fun _ => fun
  | [d1, d2, d3, d4, d5, d6] => { results := [.lit (.bool false)], args := [d1, d2, d3, d4, d5, d6] }
  | _ => none }
def KeysReckonWrongFalsely : Prop := keysReckonRow.holds Try.pinned (OpenSpec.ofChange keysReckonWrong)

/-- 'croftlaw.EngineSays': WHATEVER THE INPUT: true; the input reads as it did. -/
def engineSaysSpec : ChangeSpec := { name := "engineSays", fn := fun _ => fun
  | [d1, d2, d3, d4, d5] => { results := [.lit (.bool true)], args := [d1, d2, d3, d4, d5] }
  | _ => none }
def engineSaysRow : OpenClaim := { program := "ytbgfgkegcchaoaa", sum := "9fb50a6bf54b59fc1ba773dcad586502f1ee99f50725809944180ac9c097460f", func := "sharecroft/croftlaw.EngineSays", spec := "engineSays", unfollowed := true, recurses := true, apart := false }
def EngineSaysSaid : Prop := engineSaysRow.holds Try.pinned (OpenSpec.ofChange engineSaysSpec)

/-- ITS FALSE NEIGHBOUR: 'it returns false'. Refute it at one input. -/
def engineSaysWrong : ChangeSpec := { name := "engineSays", fn := fun _ => fun
  | [d1, d2, d3, d4, d5] => { results := [.lit (.bool false)], args := [d1, d2, d3, d4, d5] }
  | _ => none }
def EngineSaysWrongFalsely : Prop := engineSaysRow.holds Try.pinned (OpenSpec.ofChange engineSaysWrong)

/-- 'croftkeep.ListsOwn': WHATEVER THE INPUT: true; the input reads as it did. -/
def listsOwnSpec : ChangeSpec := { name := "listsOwn", fn := fun _ => fun
  | [d1, d2, d3, d4, d5, d6] => { results := [.lit (.bool true)], args := [d1, d2, d3, d4, d5, d6] }
  | _ => none }
def listsOwnRow : OpenClaim := { program := "ytbgfgkegcchaoaa", sum := "9fb50a6bf54b59fc1ba773dcad586502f1ee99f50725809944180ac9c097460f", func := "sharecroft/croftkeep.ListsOwn", spec := "listsOwn", unfollowed := true, recurses := true, apart := false }
def ListsOwnSaid : Prop := listsOwnRow.holds Try.pinned (OpenSpec.ofChange listsOwnSpec)

/-- ITS FALSE NEIGHBOUR: 'it returns false'. Refute it at one input. -/
def listsOwnWrong : ChangeSpec := { name := "listsOwn", fn := fun _ => fun
  | [d1, d2, d3, d4, d5, d6] => { results := [.lit (.bool false)], args := [d1, d2, d3, d4, d5, d6] }
  | _ => none }
def ListsOwnWrongFalsely : Prop := listsOwnRow.holds Try.pinned (OpenSpec.ofChange listsOwnWrong)

/-- 'croftkeep.TwineTells': WHATEVER THE INPUT: true; the input reads as it did. -/
def twineTellsSpec : ChangeSpec := { name := "twineTells", fn := fun _ => fun
  | [d1, d2, d3, d4, d5, d6, d7] => { results := [.lit (.bool true)], args := [d1, d2, d3, d4, d5, d6, d7] }
  | _ => none }
def twineTellsRow : OpenClaim := { program := "ytbgfgkegcchaoaa", sum := "9fb50a6bf54b59fc1ba773dcad586502f1ee99f50725809944180ac9c097460f", func := "sharecroft/croftkeep.TwineTells", spec := "twineTells", unfollowed := true, recurses := true, apart := false }
def TwineTellsSaid : Prop := twineTellsRow.holds Try.pinned (OpenSpec.ofChange twineTellsSpec)

/-- ITS FALSE NEIGHBOUR: 'it returns false'. Refute it at one input. -/
def twineTellsWrong : ChangeSpec := { name := "twineTells", fn := fun _ => fun
  | [d1, d2, d3, d4, d5, d6, d7] => { results := [.lit (.bool false)], args := [d1, d2, d3, d4, d5, d6, d7] }
  | _ => none }
def TwineTellsWrongFalsely : Prop := twineTellsRow.holds Try.pinned (OpenSpec.ofChange twineTellsWrong)

/-- 'croftkeep.TwineMeets': WHATEVER THE INPUT: true; the input reads as it did. -/
def twineMeetsSpec : ChangeSpec := { name := "twineMeets", fn := fun _ => fun
  | [d1, d2, d3, d4, d5] => { results := [.lit (.bool true)], args := [d1, d2, d3, d4, d5] }
  | _ => none }
def twineMeetsRow : OpenClaim := { program := "ytbgfgkegcchaoaa", sum := "9fb50a6bf54b59fc1ba773dcad586502f1ee99f50725809944180ac9c097460f", func := "sharecroft/croftkeep.TwineMeets", spec := "twineMeets", unfollowed := true, recurses := true, apart := false }
def TwineMeetsSaid : Prop := twineMeetsRow.holds Try.pinned (OpenSpec.ofChange twineMeetsSpec)

/-- ITS FALSE NEIGHBOUR: 'it returns false'. Refute it at one input. -/
def twineMeetsWrong : ChangeSpec := { name := "twineMeets", fn := fun _ => fun
  | [d1, d2, d3, d4, d5] => { results := [.lit (.bool false)], args := [d1, d2, d3, d4, d5] }
  | _ => none }
def TwineMeetsWrongFalsely : Prop := twineMeetsRow.holds Try.pinned (OpenSpec.ofChange twineMeetsWrong)

/-- 'croftlaw.DecodeSays': WHATEVER THE INPUT: true; the input reads as it did. -/
def decodeSaysSpec : ChangeSpec := { name := "decodeSays", fn := fun _ => fun
  | [d1, d2, d3] => { results := [.lit (.bool true)], args := [d1, d2, d3] }
  | _ => none }
def decodeSaysRow : OpenClaim := { program := "ytbgfgkegcchaoaa", sum := "9fb50a6bf54b59fc1ba773dcad586502f1ee99f50725809944180ac9c097460f", func := "sharecroft/croftlaw.DecodeSays", spec := "decodeSays", unfollowed := true, recurses := true, apart := false }
def DecodeSaysSaid : Prop := decodeSaysRow.holds Try.pinned (OpenSpec.ofChange decodeSaysSpec)

/-- ITS FALSE NEIGHBOUR: 'it returns false'. Refute it at one input. -/
def decodeSaysWrong : ChangeSpec := { name := "decodeSays", fn := fun _ => fun
  | [d1, d2, d3] => { results := [.lit (.bool false)], args := [d1, d2, d3] }
  | _ => none }
def DecodeSaysWrongFalsely : Prop := decodeSaysRow.holds Try.pinned (OpenSpec.ofChange decodeSaysWrong)

/-- 'croftkeep.TwineHides': WHATEVER THE INPUT: true; the input reads as it did. -/
def twineHidesSpec : ChangeSpec := { name := "twineHides", fn := fun _ => fun
  | [d1, d2, d3, d4, d5, d6] => { results := [.lit (.bool true)], args := [d1, d2, d3, d4, d5, d6] }
  | _ => none }
def twineHidesRow : OpenClaim := { program := "ytbgfgkegcchaoaa", sum := "9fb50a6bf54b59fc1ba773dcad586502f1ee99f50725809944180ac9c097460f", func := "sharecroft/croftkeep.TwineHides", spec := "twineHides", unfollowed := true, recurses := true, apart := false }
def TwineHidesSaid : Prop := twineHidesRow.holds Try.pinned (OpenSpec.ofChange twineHidesSpec)

/-- ITS FALSE NEIGHBOUR: 'it returns false'. Refute it at one input. -/
def twineHidesWrong : ChangeSpec := { name := "twineHides", fn := fun _ => fun
  | [d1, d2, d3, d4, d5, d6] => { results := [.lit (.bool false)], args := [d1, d2, d3, d4, d5, d6] }
  | _ => none }
def TwineHidesWrongFalsely : Prop := twineHidesRow.holds Try.pinned (OpenSpec.ofChange twineHidesWrong)

/-- 'croftkeep.DecodeMends': WHATEVER THE INPUT: true; the input reads as it did. -/
def decodeMendsSpec : ChangeSpec := { name := "decodeMends", fn := fun _ => fun
  | [d1, d2, d3, d4, d5, d6] => { results := [.lit (.bool true)], args := [d1, d2, d3, d4, d5, d6] }
  | _ => none }
def decodeMendsRow : OpenClaim := { program := "ytbgfgkegcchaoaa", sum := "9fb50a6bf54b59fc1ba773dcad586502f1ee99f50725809944180ac9c097460f", func := "sharecroft/croftkeep.DecodeMends", spec := "decodeMends", unfollowed := true, recurses := true, apart := false }
def DecodeMendsSaid : Prop := decodeMendsRow.holds Try.pinned (OpenSpec.ofChange decodeMendsSpec)

/-- ITS FALSE NEIGHBOUR: 'it returns false'. Refute it at one input. -/
def decodeMendsWrong : ChangeSpec := { name := "decodeMends", fn := fun _ => fun
  | [d1, d2, d3, d4, d5, d6] => { results := [.lit (.bool false)], args := [d1, d2, d3, d4, d5, d6] }
  | _ => none }
def DecodeMendsWrongFalsely : Prop := decodeMendsRow.holds Try.pinned (OpenSpec.ofChange decodeMendsWrong)

/-- 'croftlaw.KeysPlay': WHATEVER THE INPUT: true; the input reads as it did. -/
def keysPlaySpec : ChangeSpec := { name := "keysPlay", fn := fun _ => fun
  | [d1, d2, d3] => { results := [.lit (.bool true)], args := [d1, d2, d3] }
  | _ => none }
def keysPlayRow : OpenClaim := { program := "ytbgfgkegcchaoaa", sum := "9fb50a6bf54b59fc1ba773dcad586502f1ee99f50725809944180ac9c097460f", func := "sharecroft/croftlaw.KeysPlay", spec := "keysPlay", unfollowed := true, recurses := true, apart := false }
def KeysPlaySaid : Prop := keysPlayRow.holds Try.pinned (OpenSpec.ofChange keysPlaySpec)

/-- ITS FALSE NEIGHBOUR: 'it returns false'. Refute it at one input. -/
def keysPlayWrong : ChangeSpec := { name := "keysPlay", fn := fun _ => fun
  | [d1, d2, d3] => { results := [.lit (.bool false)], args := [d1, d2, d3] }
  | _ => none }
def KeysPlayWrongFalsely : Prop := keysPlayRow.holds Try.pinned (OpenSpec.ofChange keysPlayWrong)

/- THE SECOND FORM. 'bulk': how many values and letters a reading holds, each counted each time it is reached (what is shared counts as often as it is met; a slice's spare places count too). A statement '..UptoSaid' is the law's where the arguments, and the package variables that the reading takes, are together of bulk at most 1048576: NARROWER than '..Said'. Prove '..Said' where nothing that the law and all that it calls make is longer than what came in: it says more and counts as full. Else prove '..UptoSaid'. A law counts once. -/
mutual
def uptoBulk {H : Type} : DataW H → Nat
  | .lit (.string bytes) => bytes.length + 1
  | .lit _ => 1
  | .nil => 1
  | .ptr d => uptoBulk d + 1
  | .slice elems spare => uptoBulkAll elems + uptoBulkAll spare + 1
  | .agg parts => uptoBulkAll parts + 1
  | .iface _ d => uptoBulk d + 1
  | .map entries => uptoBulkEntries entries + 1
  | .held _ => 1
def uptoBulkAll {H : Type} : List (DataW H) → Nat
  | [] => 0
  | d :: r => uptoBulk d + uptoBulkAll r
def uptoBulkEntries {H : Type} : List (Lit × DataW H) → Nat
  | [] => 0
  | x :: r => uptoBulkEntry x + uptoBulkEntries r
def uptoBulkEntry {H : Type} : Lit × DataW H → Nat
  | (.string bytes, d) => bytes.length + uptoBulk d + 1
  | (_, d) => uptoBulk d + 1
 end
def uptoSmall : (H : Type) → List (DataW H) → Bool := fun _ ds => decide (uptoBulkAll ds ≤ 1048576)
def OpenSpec.upto (s : _root_.Go.ChangeSpec) : _root_.Go.OpenSpec := { _root_.Go.OpenSpec.ofChange s with cond := some uptoSmall }

/-- 'crofttop.TopKeys', WHERE WHAT IT READS IS OF BULK AT MOST 1048576: true; the input reads as it did. -/
def topKeysUptoRow : OpenClaim := { program := "ytbgfgkegcchaoaa", sum := "9fb50a6bf54b59fc1ba773dcad586502f1ee99f50725809944180ac9c097460f", func := "sharecroft/crofttop.TopKeys", spec := "topKeys", unfollowed := true, recurses := true, apart := false, narrowed := true }
def TopKeysUptoSaid : Prop := topKeysUptoRow.holds Try.pinned (OpenSpec.upto topKeysSpec)

/-- 'croftkeep.KeysReckon', WHERE WHAT IT READS IS OF BULK AT MOST 1048576: true; the input reads as it did. -/
def keysReckonUptoRow : OpenClaim := { program := "ytbgfgkegcchaoaa", sum := "9fb50a6bf54b59fc1ba773dcad586502f1ee99f50725809944180ac9c097460f", func := "sharecroft/croftkeep.KeysReckon", spec := "keysReckon", unfollowed := true, recurses := true, apart := false, narrowed := true }
def KeysReckonUptoSaid : Prop := keysReckonUptoRow.holds Try.pinned (OpenSpec.upto keysReckonSpec)

/-- 'croftlaw.EngineSays', WHERE WHAT IT READS IS OF BULK AT MOST 1048576: true; the input reads as it did. -/
def engineSaysUptoRow : OpenClaim := { program := "ytbgfgkegcchaoaa", sum := "9fb50a6bf54b59fc1ba773dcad586502f1ee99f50725809944180ac9c097460f", func := "sharecroft/croftlaw.EngineSays", spec := "engineSays", unfollowed := true, recurses := true, apart := false, narrowed := true }
def EngineSaysUptoSaid : Prop := engineSaysUptoRow.holds Try.pinned (OpenSpec.upto engineSaysSpec)

/-- 'croftkeep.ListsOwn', WHERE WHAT IT READS IS OF BULK AT MOST 1048576: true; the input reads as it did. -/
def listsOwnUptoRow : OpenClaim := { program := "ytbgfgkegcchaoaa", sum := "9fb50a6bf54b59fc1ba773dcad586502f1ee99f50725809944180ac9c097460f", func := "sharecroft/croftkeep.ListsOwn", spec := "listsOwn", unfollowed := true, recurses := true, apart := false, narrowed := true }
def ListsOwnUptoSaid : Prop := listsOwnUptoRow.holds Try.pinned (OpenSpec.upto listsOwnSpec)

/-- 'croftkeep.TwineTells', WHERE WHAT IT READS IS OF BULK AT MOST 1048576: true; the input reads as it did. -/
def twineTellsUptoRow : OpenClaim := { program := "ytbgfgkegcchaoaa", sum := "9fb50a6bf54b59fc1ba773dcad586502f1ee99f50725809944180ac9c097460f", func := "sharecroft/croftkeep.TwineTells", spec := "twineTells", unfollowed := true, recurses := true, apart := false, narrowed := true }
def TwineTellsUptoSaid : Prop := twineTellsUptoRow.holds Try.pinned (OpenSpec.upto twineTellsSpec)

/-- 'croftkeep.TwineMeets', WHERE WHAT IT READS IS OF BULK AT MOST 1048576: true; the input reads as it did. -/
def twineMeetsUptoRow : OpenClaim := { program := "ytbgfgkegcchaoaa", sum := "9fb50a6bf54b59fc1ba773dcad586502f1ee99f50725809944180ac9c097460f", func := "sharecroft/croftkeep.TwineMeets", spec := "twineMeets", unfollowed := true, recurses := true, apart := false, narrowed := true }
def TwineMeetsUptoSaid : Prop := twineMeetsUptoRow.holds Try.pinned (OpenSpec.upto twineMeetsSpec)

/-- 'croftlaw.DecodeSays', WHERE WHAT IT READS IS OF BULK AT MOST 1048576: true; the input reads as it did. -/
def decodeSaysUptoRow : OpenClaim := { program := "ytbgfgkegcchaoaa", sum := "9fb50a6bf54b59fc1ba773dcad586502f1ee99f50725809944180ac9c097460f", func := "sharecroft/croftlaw.DecodeSays", spec := "decodeSays", unfollowed := true, recurses := true, apart := false, narrowed := true }
def DecodeSaysUptoSaid : Prop := decodeSaysUptoRow.holds Try.pinned (OpenSpec.upto decodeSaysSpec)

/-- 'croftkeep.TwineHides', WHERE WHAT IT READS IS OF BULK AT MOST 1048576: true; the input reads as it did. -/
def twineHidesUptoRow : OpenClaim := { program := "ytbgfgkegcchaoaa", sum := "9fb50a6bf54b59fc1ba773dcad586502f1ee99f50725809944180ac9c097460f", func := "sharecroft/croftkeep.TwineHides", spec := "twineHides", unfollowed := true, recurses := true, apart := false, narrowed := true }
def TwineHidesUptoSaid : Prop := twineHidesUptoRow.holds Try.pinned (OpenSpec.upto twineHidesSpec)

/-- 'croftkeep.DecodeMends', WHERE WHAT IT READS IS OF BULK AT MOST 1048576: true; the input reads as it did. -/
def decodeMendsUptoRow : OpenClaim := { program := "ytbgfgkegcchaoaa", sum := "9fb50a6bf54b59fc1ba773dcad586502f1ee99f50725809944180ac9c097460f", func := "sharecroft/croftkeep.DecodeMends", spec := "decodeMends", unfollowed := true, recurses := true, apart := false, narrowed := true }
def DecodeMendsUptoSaid : Prop := decodeMendsUptoRow.holds Try.pinned (OpenSpec.upto decodeMendsSpec)

/-- 'croftlaw.KeysPlay', WHERE WHAT IT READS IS OF BULK AT MOST 1048576: true; the input reads as it did. -/
def keysPlayUptoRow : OpenClaim := { program := "ytbgfgkegcchaoaa", sum := "9fb50a6bf54b59fc1ba773dcad586502f1ee99f50725809944180ac9c097460f", func := "sharecroft/croftlaw.KeysPlay", spec := "keysPlay", unfollowed := true, recurses := true, apart := false, narrowed := true }
def KeysPlayUptoSaid : Prop := keysPlayUptoRow.holds Try.pinned (OpenSpec.upto keysPlaySpec)

end Rows
end Go.Proofs.Ytbgfgkegcchaoaa
