/-
  No cell of these rows narrows 'for every input' (looked for: loops, veiled, ifaces, maps, wideKeys, modest, calm, conditions, laid).
  DERIVED. THE GIVEN ROWS OF THIS SEAT. 7 by the template 'for every input the law returns true; each argument reads behind the call as it read before'; 0 by the template 'total and deterministic' (their statements: YtegmeepogjijiaaTotals.lean).
  GIVEN WITH THE SEED: the statements are not yours to turn. If you find one false, say at which input.
  Laid BY PROGRAM, IN A SANDBOX (cutbox-rows.mjs): the forced cells as the released guide's own fill.sh prints them over the translation 4abb432a839121f3… (all of the seat's roots in one cut). By AI agents, Wed Nov 11 2026. No macro, syntax, notation, axiom, sorry.
-/
import Derived.Test.YtegmeepogjijiaaChecked
import GoSem.Claim
import GoSem.ClaimJoined
import GoSem.ClaimMapViews
import Derived.JoinedTies
import Derived.KernelRfl
namespace Go.Proofs.Ytegmeepogjijiaa
/- THE CELL 'sum', in the pinned program and in every row, IS THE sha256 OF THE DUMP (.gsa) THAT YtegmeepogjijiaaProg.lean LOADS. Nothing in Lean hashes anything: it is a label: what it is worth is what the hold of that sum in a sandbox is worth. -/
noncomputable def Try.pinned : Pinned := { name := "ytegmeepogjijiaa", sum := "4abb432a839121f317d4813da687c12a250c6f907deac64831a5614d71fc5071", checked := Try.checked }
namespace Rows
def none {H : Type} : Left H := { results := [], args := [] }

/-- 'croftkeep.KeysReckon': WHATEVER THE INPUT: true; the input reads as it did. -/
def keysReckonSpec : ChangeSpec := { name := "keysReckon", fn := fun _ => fun
  | [d1, d2, d3, d4, d5, d6] => { results := [.lit (.bool true)], args := [d1, d2, d3, d4, d5, d6] }
  | _ => none }
def keysReckonRow : OpenClaim := { program := "ytegmeepogjijiaa", sum := "4abb432a839121f317d4813da687c12a250c6f907deac64831a5614d71fc5071", func := "sharecroft/croftkeep.KeysReckon", spec := "keysReckon", unfollowed := true, recurses := true, apart := false }
def KeysReckonSaid : Prop := keysReckonRow.holds Try.pinned (OpenSpec.ofChange keysReckonSpec)

/-- ITS FALSE NEIGHBOUR: 'it returns false'. Refute it at one input. -/
def keysReckonWrong : ChangeSpec := { name := "keysReckon", fn := fun _ => fun
  | [d1, d2, d3, d4, d5, d6] => { results := [.lit (.bool false)], args := [d1, d2, d3, d4, d5, d6] }
  | _ => none }
def KeysReckonWrongFalsely : Prop := keysReckonRow.holds Try.pinned (OpenSpec.ofChange keysReckonWrong)

/-- 'croftlaw.EngineSays': WHATEVER THE INPUT: true; the input reads as it did. -/
def engineSaysSpec : ChangeSpec := { name := "engineSays", fn := fun _ => fun
  | [d1, d2, d3, d4, d5] => { results := [.lit (.bool true)], args := [d1, d2, d3, d4, d5] }
  | _ => none }
def engineSaysRow : OpenClaim := { program := "ytegmeepogjijiaa", sum := "4abb432a839121f317d4813da687c12a250c6f907deac64831a5614d71fc5071", func := "sharecroft/croftlaw.EngineSays", spec := "engineSays", unfollowed := true, recurses := true, apart := false }
def EngineSaysSaid : Prop := engineSaysRow.holds Try.pinned (OpenSpec.ofChange engineSaysSpec)

/-- ITS FALSE NEIGHBOUR: 'it returns false'. Refute it at one input. -/
def engineSaysWrong : ChangeSpec := { name := "engineSays", fn := fun _ => fun
  | [d1, d2, d3, d4, d5] => { results := [.lit (.bool false)], args := [d1, d2, d3, d4, d5] }
  | _ => none }
def EngineSaysWrongFalsely : Prop := engineSaysRow.holds Try.pinned (OpenSpec.ofChange engineSaysWrong)

/-- 'croftkeep.ListsOwn': WHATEVER THE INPUT: true; the input reads as it did. -/
def listsOwnSpec : ChangeSpec := { name := "listsOwn", fn := fun _ => fun
  | [d1, d2, d3, d4, d5, d6] => { results := [.lit (.bool true)], args := [d1, d2, d3, d4, d5, d6] }
  | _ => none }
def listsOwnRow : OpenClaim := { program := "ytegmeepogjijiaa", sum := "4abb432a839121f317d4813da687c12a250c6f907deac64831a5614d71fc5071", func := "sharecroft/croftkeep.ListsOwn", spec := "listsOwn", unfollowed := true, recurses := true, apart := false }
def ListsOwnSaid : Prop := listsOwnRow.holds Try.pinned (OpenSpec.ofChange listsOwnSpec)

/-- ITS FALSE NEIGHBOUR: 'it returns false'. Refute it at one input. -/
def listsOwnWrong : ChangeSpec := { name := "listsOwn", fn := fun _ => fun
  | [d1, d2, d3, d4, d5, d6] => { results := [.lit (.bool false)], args := [d1, d2, d3, d4, d5, d6] }
  | _ => none }
def ListsOwnWrongFalsely : Prop := listsOwnRow.holds Try.pinned (OpenSpec.ofChange listsOwnWrong)

/-- 'croftlaw.KeysPlay': WHATEVER THE INPUT: true; the input reads as it did. -/
def keysPlaySpec : ChangeSpec := { name := "keysPlay", fn := fun _ => fun
  | [d1, d2, d3] => { results := [.lit (.bool true)], args := [d1, d2, d3] }
  | _ => none }
def keysPlayRow : OpenClaim := { program := "ytegmeepogjijiaa", sum := "4abb432a839121f317d4813da687c12a250c6f907deac64831a5614d71fc5071", func := "sharecroft/croftlaw.KeysPlay", spec := "keysPlay", unfollowed := true, recurses := true, apart := false }
def KeysPlaySaid : Prop := keysPlayRow.holds Try.pinned (OpenSpec.ofChange keysPlaySpec)

/-- ITS FALSE NEIGHBOUR: 'it returns false'. Refute it at one input. -/
def keysPlayWrong : ChangeSpec := { name := "keysPlay", fn := fun _ => fun
  | [d1, d2, d3] => { results := [.lit (.bool false)], args := [d1, d2, d3] }
  | _ => none }
def KeysPlayWrongFalsely : Prop := keysPlayRow.holds Try.pinned (OpenSpec.ofChange keysPlayWrong)

/-- 'croftlaw.TwineJoins': WHATEVER THE INPUT: true; the input reads as it did. -/
def twineJoinsSpec : ChangeSpec := { name := "twineJoins", fn := fun _ => fun
  | [d1, d2] => { results := [.lit (.bool true)], args := [d1, d2] }
  | _ => none }
def twineJoinsRow : OpenClaim := { program := "ytegmeepogjijiaa", sum := "4abb432a839121f317d4813da687c12a250c6f907deac64831a5614d71fc5071", func := "sharecroft/croftlaw.TwineJoins", spec := "twineJoins", unfollowed := true, recurses := true, apart := false }
def TwineJoinsSaid : Prop := twineJoinsRow.holds Try.pinned (OpenSpec.ofChange twineJoinsSpec)

/-- ITS FALSE NEIGHBOUR: 'it returns false'. Refute it at one input. -/
def twineJoinsWrong : ChangeSpec := { name := "twineJoins", fn := fun _ => fun
  | [d1, d2] => { results := [.lit (.bool false)], args := [d1, d2] }
  | _ => none }
def TwineJoinsWrongFalsely : Prop := twineJoinsRow.holds Try.pinned (OpenSpec.ofChange twineJoinsWrong)

/-- 'crofttop.TopMends': WHATEVER THE INPUT: true; the input reads as it did. -/
def topMendsSpec : ChangeSpec := { name := "topMends", fn := fun _ => fun
  | [d1, d2, d3, d4, d5] => { results := [.lit (.bool true)], args := [d1, d2, d3, d4, d5] }
  | _ => none }
def topMendsRow : OpenClaim := { program := "ytegmeepogjijiaa", sum := "4abb432a839121f317d4813da687c12a250c6f907deac64831a5614d71fc5071", func := "sharecroft/crofttop.TopMends", spec := "topMends", unfollowed := true, recurses := true, apart := false }
def TopMendsSaid : Prop := topMendsRow.holds Try.pinned (OpenSpec.ofChange topMendsSpec)

/-- ITS FALSE NEIGHBOUR: 'it returns false'. Refute it at one input. -/
def topMendsWrong : ChangeSpec := { name := "topMends", fn := fun _ => fun
  | [d1, d2, d3, d4, d5] => { results := [.lit (.bool false)], args := [d1, d2, d3, d4, d5] }
  | _ => none }
def TopMendsWrongFalsely : Prop := topMendsRow.holds Try.pinned (OpenSpec.ofChange topMendsWrong)

/-- 'crofttop.TopTwine': WHATEVER THE INPUT: true; the input reads as it did. -/
def topTwineSpec : ChangeSpec := { name := "topTwine", fn := fun _ => fun
  | [d1, d2, d3, d4, d5, d6] => { results := [.lit (.bool true)], args := [d1, d2, d3, d4, d5, d6] }
  | _ => none }
def topTwineRow : OpenClaim := { program := "ytegmeepogjijiaa", sum := "4abb432a839121f317d4813da687c12a250c6f907deac64831a5614d71fc5071", func := "sharecroft/crofttop.TopTwine", spec := "topTwine", unfollowed := true, recurses := true, apart := false }
def TopTwineSaid : Prop := topTwineRow.holds Try.pinned (OpenSpec.ofChange topTwineSpec)

/-- ITS FALSE NEIGHBOUR: 'it returns false'. Refute it at one input. -/
def topTwineWrong : ChangeSpec := { name := "topTwine", fn := fun _ => fun
  | [d1, d2, d3, d4, d5, d6] => { results := [.lit (.bool false)], args := [d1, d2, d3, d4, d5, d6] }
  | _ => none }
def TopTwineWrongFalsely : Prop := topTwineRow.holds Try.pinned (OpenSpec.ofChange topTwineWrong)

/- THE SECOND FORM. 'bulk': how many values and letters a reading holds, each counted each time it is reached (what is shared counts as often as it is met; a slice's spare places count too). A statement '..UptoSaid' is the law's where the arguments, and the package variables that the reading takes, are together of bulk at most 1048576: NARROWER than '..Said'. Prove '..Said' where nothing that the law and all that it calls make is longer than what came in: it says more and counts as full. Else prove '..UptoSaid'. A law counts once. -/
mutual
def uptoBulk {H : Type} : DataW H → Nat
  | .lit (.string bytes) => bytes.length + 1
  | .lit _ => 1
  | .nil => 1
  | .ptr d => uptoBulk d + 1
  | .slice elems spare => uptoBulkAll elems + uptoBulkAll spare + 1
  | .agg parts => uptoBulkAll parts + 1
  | .iface _ d => uptoBulk d + 1
  | .map entries => uptoBulkEntries entries + 1
  | .held _ => 1
def uptoBulkAll {H : Type} : List (DataW H) → Nat
  | [] => 0
  | d :: r => uptoBulk d + uptoBulkAll r
def uptoBulkEntries {H : Type} : List (Lit × DataW H) → Nat
  | [] => 0
  | x :: r => uptoBulkEntry x + uptoBulkEntries r
def uptoBulkEntry {H : Type} : Lit × DataW H → Nat
  | (.string bytes, d) => bytes.length + uptoBulk d + 1
  | (_, d) => uptoBulk d + 1
 end
def uptoSmall : (H : Type) → List (DataW H) → Bool := fun _ ds => decide (uptoBulkAll ds ≤ 1048576)
def OpenSpec.upto (s : _root_.Go.ChangeSpec) : _root_.Go.OpenSpec := { _root_.Go.OpenSpec.ofChange s with cond := some uptoSmall }

/-- 'croftkeep.KeysReckon', WHERE WHAT IT READS IS OF BULK AT MOST 1048576: true; the input reads as it did. -/
def keysReckonUptoRow : OpenClaim := { program := "ytegmeepogjijiaa", sum := "4abb432a839121f317d4813da687c12a250c6f907deac64831a5614d71fc5071", func := "sharecroft/croftkeep.KeysReckon", spec := "keysReckon", unfollowed := true, recurses := true, apart := false, narrowed := true }
def KeysReckonUptoSaid : Prop := keysReckonUptoRow.holds Try.pinned (OpenSpec.upto keysReckonSpec)

/-- 'croftlaw.EngineSays', WHERE WHAT IT READS IS OF BULK AT MOST 1048576: true; the input reads as it did. -/
def engineSaysUptoRow : OpenClaim := { program := "ytegmeepogjijiaa", sum := "4abb432a839121f317d4813da687c12a250c6f907deac64831a5614d71fc5071", func := "sharecroft/croftlaw.EngineSays", spec := "engineSays", unfollowed := true, recurses := true, apart := false, narrowed := true }
def EngineSaysUptoSaid : Prop := engineSaysUptoRow.holds Try.pinned (OpenSpec.upto engineSaysSpec)

/-- 'croftkeep.ListsOwn', WHERE WHAT IT READS IS OF BULK AT MOST 1048576: true; the input reads as it did. -/
def listsOwnUptoRow : OpenClaim := { program := "ytegmeepogjijiaa", sum := "4abb432a839121f317d4813da687c12a250c6f907deac64831a5614d71fc5071", func := "sharecroft/croftkeep.ListsOwn", spec := "listsOwn", unfollowed := true, recurses := true, apart := false, narrowed := true }
def ListsOwnUptoSaid : Prop := listsOwnUptoRow.holds Try.pinned (OpenSpec.upto listsOwnSpec)

/-- 'croftlaw.KeysPlay', WHERE WHAT IT READS IS OF BULK AT MOST 1048576: true; the input reads as it did. -/
def keysPlayUptoRow : OpenClaim := { program := "ytegmeepogjijiaa", sum := "4abb432a839121f317d4813da687c12a250c6f907deac64831a5614d71fc5071", func := "sharecroft/croftlaw.KeysPlay", spec := "keysPlay", unfollowed := true, recurses := true, apart := false, narrowed := true }
def KeysPlayUptoSaid : Prop := keysPlayUptoRow.holds Try.pinned (OpenSpec.upto keysPlaySpec)

/-- 'croftlaw.TwineJoins', WHERE WHAT IT READS IS OF BULK AT MOST 1048576: true; the input reads as it did. -/
def twineJoinsUptoRow : OpenClaim := { program := "ytegmeepogjijiaa", sum := "4abb432a839121f317d4813da687c12a250c6f907deac64831a5614d71fc5071", func := "sharecroft/croftlaw.TwineJoins", spec := "twineJoins", unfollowed := true, recurses := true, apart := false, narrowed := true }
def TwineJoinsUptoSaid : Prop := twineJoinsUptoRow.holds Try.pinned (OpenSpec.upto twineJoinsSpec)

/-- 'crofttop.TopMends', WHERE WHAT IT READS IS OF BULK AT MOST 1048576: true; the input reads as it did. -/
def topMendsUptoRow : OpenClaim := { program := "ytegmeepogjijiaa", sum := "4abb432a839121f317d4813da687c12a250c6f907deac64831a5614d71fc5071", func := "sharecroft/crofttop.TopMends", spec := "topMends", unfollowed := true, recurses := true, apart := false, narrowed := true }
def TopMendsUptoSaid : Prop := topMendsUptoRow.holds Try.pinned (OpenSpec.upto topMendsSpec)

/-- 'crofttop.TopTwine', WHERE WHAT IT READS IS OF BULK AT MOST 1048576: true; the input reads as it did. -/
def topTwineUptoRow : OpenClaim := { program := "ytegmeepogjijiaa", sum := "4abb432a839121f317d4813da687c12a250c6f907deac64831a5614d71fc5071", func := "sharecroft/crofttop.TopTwine", spec := "topTwine", unfollowed := true, recurses := true, apart := false, narrowed := true }
def TopTwineUptoSaid : Prop := topTwineUptoRow.holds Try.pinned (OpenSpec.upto topTwineSpec)

end Rows
end Go.Proofs.Ytegmeepogjijiaa
