/-
  No cell of these rows narrows 'for every input' (looked for: loops, veiled, ifaces, maps, wideKeys, modest, calm, conditions, laid).
  DERIVED. THE GIVEN ROWS OF THIS SEAT. 12 by the template 'for every input the law returns true; each argument reads behind the call as it read before'; 0 by the template 'total and deterministic' (their statements: YtejkaciimmfgcaaTotals.lean).
  GIVEN WITH THE SEED: the statements are not yours to turn. If you find one false, say at which input.
  Laid BY PROGRAM, IN A SANDBOX (cutbox-rows.mjs): the forced cells as the released guide's own fill.sh prints them over the translation c56cf253098b8328… (all of the seat's roots in one cut). By AI agents, Wed Nov 11 2026. No macro, syntax, notation, axiom, sorry.
-/
import Derived.Test.YtejkaciimmfgcaaChecked
import GoSem.Claim
import GoSem.ClaimJoined
import GoSem.ClaimMapViews
import Derived.JoinedTies
import Derived.KernelRfl
namespace Go.Proofs.Ytejkaciimmfgcaa
/- THE CELL 'sum', in the pinned program and in every row, IS THE sha256 OF THE DUMP (.gsa) THAT YtejkaciimmfgcaaProg.lean LOADS. Nothing in Lean hashes anything: it is a label: what it is worth is what the hold of that sum in a sandbox is worth. -/
noncomputable def Try.pinned : Pinned := { name := "ytejkaciimmfgcaa", sum := "c56cf253098b8328b3e7f1661b20acb3985b931f577a8e6412f8cee0855f07eb", checked := Try.checked }
namespace Rows
def none {H : Type} : Left H := { results := [], args := [] }

/-- 'grapevinelaw12.WheelOnce': WHATEVER THE INPUT: true; the input reads as it did. -/
def wheelOnceSpec : ChangeSpec := { name := "wheelOnce", fn := fun _ => fun
  | [d1, d2] => { results := [.lit (.bool true)], args := [d1, d2] }
  | _ => none }
def wheelOnceRow : OpenClaim := { program := "ytejkaciimmfgcaa", sum := "c56cf253098b8328b3e7f1661b20acb3985b931f577a8e6412f8cee0855f07eb", func := "grapevine/grapevinelaw12.WheelOnce", spec := "wheelOnce", unfollowed := true, recurses := true, apart := false }
def WheelOnceSaid : Prop := wheelOnceRow.holds Try.pinned (OpenSpec.ofChange wheelOnceSpec)

/-- ITS FALSE NEIGHBOUR: 'it returns false'. Refute it at one input. -/
def wheelOnceWrong : ChangeSpec := { name := "wheelOnce", fn := fun _ => fun
  | [d1, d2] => { results := [.lit (.bool false)], args := [d1, d2] }
  | _ => none }
def WheelOnceWrongFalsely : Prop := wheelOnceRow.holds Try.pinned (OpenSpec.ofChange wheelOnceWrong)

/-- 'grapevinelaw12.WheelCuts': WHATEVER THE INPUT: true; the input reads as it did. -/
def wheelCutsSpec : ChangeSpec := { name := "wheelCuts", fn := fun _ => fun
  | [d1, d2, d3] => { results := [.lit (.bool true)], args := [d1, d2, d3] }
  | _ => none }
def wheelCutsRow : OpenClaim := { program := "ytejkaciimmfgcaa", sum := "c56cf253098b8328b3e7f1661b20acb3985b931f577a8e6412f8cee0855f07eb", func := "grapevine/grapevinelaw12.WheelCuts", spec := "wheelCuts", unfollowed := true, recurses := true, apart := false }
def WheelCutsSaid : Prop := wheelCutsRow.holds Try.pinned (OpenSpec.ofChange wheelCutsSpec)

/-- ITS FALSE NEIGHBOUR: 'it returns false'. Refute it at one input. -/
def wheelCutsWrong : ChangeSpec := { name := "wheelCuts", fn := fun _ => fun
  | [d1, d2, d3] => { results := [.lit (.bool false)], args := [d1, d2, d3] }
  | _ => none }
def WheelCutsWrongFalsely : Prop := wheelCutsRow.holds Try.pinned (OpenSpec.ofChange wheelCutsWrong)

/-- 'grapevinelaw12.WheelNext': WHATEVER THE INPUT: true; the input reads as it did. -/
def wheelNextSpec : ChangeSpec := { name := "wheelNext", fn := fun _ => fun
  | [d] => { results := [.lit (.bool true)], args := [d] }
  | _ => none }
def wheelNextRow : OpenClaim := { program := "ytejkaciimmfgcaa", sum := "c56cf253098b8328b3e7f1661b20acb3985b931f577a8e6412f8cee0855f07eb", func := "grapevine/grapevinelaw12.WheelNext", spec := "wheelNext", unfollowed := true, recurses := true, apart := false }
def WheelNextSaid : Prop := wheelNextRow.holds Try.pinned (OpenSpec.ofChange wheelNextSpec)

/-- ITS FALSE NEIGHBOUR: 'it returns false'. Refute it at one input. -/
def wheelNextWrong : ChangeSpec := { name := "wheelNext", fn := fun _ => fun
  | [d] => { results := [.lit (.bool false)], args := [d] }
  | _ => none }
def WheelNextWrongFalsely : Prop := wheelNextRow.holds Try.pinned (OpenSpec.ofChange wheelNextWrong)

/-- 'grapevinelaw12.WheelPlays': WHATEVER THE INPUT: true; the input reads as it did. -/
def wheelPlaysSpec : ChangeSpec := { name := "wheelPlays", fn := fun _ => fun
  | [d1, d2] => { results := [.lit (.bool true)], args := [d1, d2] }
  | _ => none }
def wheelPlaysRow : OpenClaim := { program := "ytejkaciimmfgcaa", sum := "c56cf253098b8328b3e7f1661b20acb3985b931f577a8e6412f8cee0855f07eb", func := "grapevine/grapevinelaw12.WheelPlays", spec := "wheelPlays", unfollowed := true, recurses := true, apart := false }
def WheelPlaysSaid : Prop := wheelPlaysRow.holds Try.pinned (OpenSpec.ofChange wheelPlaysSpec)

/-- ITS FALSE NEIGHBOUR: 'it returns false'. Refute it at one input. -/
def wheelPlaysWrong : ChangeSpec := { name := "wheelPlays", fn := fun _ => fun
  | [d1, d2] => { results := [.lit (.bool false)], args := [d1, d2] }
  | _ => none }
def WheelPlaysWrongFalsely : Prop := wheelPlaysRow.holds Try.pinned (OpenSpec.ofChange wheelPlaysWrong)

/-- 'grapevinelaw12.WheelForks': WHATEVER THE INPUT: true; the input reads as it did. -/
def wheelForksSpec : ChangeSpec := { name := "wheelForks", fn := fun _ => fun
  | [d1, d2] => { results := [.lit (.bool true)], args := [d1, d2] }
  | _ => none }
def wheelForksRow : OpenClaim := { program := "ytejkaciimmfgcaa", sum := "c56cf253098b8328b3e7f1661b20acb3985b931f577a8e6412f8cee0855f07eb", func := "grapevine/grapevinelaw12.WheelForks", spec := "wheelForks", unfollowed := true, recurses := true, apart := false }
def WheelForksSaid : Prop := wheelForksRow.holds Try.pinned (OpenSpec.ofChange wheelForksSpec)

/-- ITS FALSE NEIGHBOUR: 'it returns false'. Refute it at one input. -/
def wheelForksWrong : ChangeSpec := { name := "wheelForks", fn := fun _ => fun
  | [d1, d2] => { results := [.lit (.bool false)], args := [d1, d2] }
  | _ => none }
def WheelForksWrongFalsely : Prop := wheelForksRow.holds Try.pinned (OpenSpec.ofChange wheelForksWrong)

/-- 'grapevinelaw12.WheelNone': WHATEVER THE INPUT: true; the input reads as it did. -/
def wheelNoneSpec : ChangeSpec := { name := "wheelNone", fn := fun _ => fun
  | [d1, d2] => { results := [.lit (.bool true)], args := [d1, d2] }
  | _ => none }
def wheelNoneRow : OpenClaim := { program := "ytejkaciimmfgcaa", sum := "c56cf253098b8328b3e7f1661b20acb3985b931f577a8e6412f8cee0855f07eb", func := "grapevine/grapevinelaw12.WheelNone", spec := "wheelNone", unfollowed := true, recurses := true, apart := false }
def WheelNoneSaid : Prop := wheelNoneRow.holds Try.pinned (OpenSpec.ofChange wheelNoneSpec)

/-- ITS FALSE NEIGHBOUR: 'it returns false'. Refute it at one input. -/
def wheelNoneWrong : ChangeSpec := { name := "wheelNone", fn := fun _ => fun
  | [d1, d2] => { results := [.lit (.bool false)], args := [d1, d2] }
  | _ => none }
def WheelNoneWrongFalsely : Prop := wheelNoneRow.holds Try.pinned (OpenSpec.ofChange wheelNoneWrong)

/-- 'grapevinelaw11.EvlogOpens': WHATEVER THE INPUT: true; the input reads as it did. -/
def evlogOpensSpec : ChangeSpec := { name := "evlogOpens", fn := fun _ => fun
  | [d1, d2, d3] => { results := [.lit (.bool true)], args := [d1, d2, d3] }
  | _ => none }
def evlogOpensRow : OpenClaim := { program := "ytejkaciimmfgcaa", sum := "c56cf253098b8328b3e7f1661b20acb3985b931f577a8e6412f8cee0855f07eb", func := "grapevine/grapevinelaw11.EvlogOpens", spec := "evlogOpens", unfollowed := true, recurses := true, apart := false }
def EvlogOpensSaid : Prop := evlogOpensRow.holds Try.pinned (OpenSpec.ofChange evlogOpensSpec)

/-- ITS FALSE NEIGHBOUR: 'it returns false'. Refute it at one input. -/
def evlogOpensWrong : ChangeSpec := { name := "evlogOpens", fn := fun _ => fun
  | [d1, d2, d3] => { results := [.lit (.bool false)], args := [d1, d2, d3] }
  | _ => none }
def EvlogOpensWrongFalsely : Prop := evlogOpensRow.holds Try.pinned (OpenSpec.ofChange evlogOpensWrong)

/-- 'grapevinelaw11.EvlogNone': WHATEVER THE INPUT: true; the input reads as it did. -/
def evlogNoneSpec : ChangeSpec := { name := "evlogNone", fn := fun _ => fun
  | [d1, d2] => { results := [.lit (.bool true)], args := [d1, d2] }
  | _ => none }
def evlogNoneRow : OpenClaim := { program := "ytejkaciimmfgcaa", sum := "c56cf253098b8328b3e7f1661b20acb3985b931f577a8e6412f8cee0855f07eb", func := "grapevine/grapevinelaw11.EvlogNone", spec := "evlogNone", unfollowed := true, recurses := true, apart := false }
def EvlogNoneSaid : Prop := evlogNoneRow.holds Try.pinned (OpenSpec.ofChange evlogNoneSpec)

/-- ITS FALSE NEIGHBOUR: 'it returns false'. Refute it at one input. -/
def evlogNoneWrong : ChangeSpec := { name := "evlogNone", fn := fun _ => fun
  | [d1, d2] => { results := [.lit (.bool false)], args := [d1, d2] }
  | _ => none }
def EvlogNoneWrongFalsely : Prop := evlogNoneRow.holds Try.pinned (OpenSpec.ofChange evlogNoneWrong)

/-- 'grapevinelaw11.EvlogGrows': WHATEVER THE INPUT: true; the input reads as it did. -/
def evlogGrowsSpec : ChangeSpec := { name := "evlogGrows", fn := fun _ => fun
  | [d] => { results := [.lit (.bool true)], args := [d] }
  | _ => none }
def evlogGrowsRow : OpenClaim := { program := "ytejkaciimmfgcaa", sum := "c56cf253098b8328b3e7f1661b20acb3985b931f577a8e6412f8cee0855f07eb", func := "grapevine/grapevinelaw11.EvlogGrows", spec := "evlogGrows", unfollowed := true, recurses := true, apart := false }
def EvlogGrowsSaid : Prop := evlogGrowsRow.holds Try.pinned (OpenSpec.ofChange evlogGrowsSpec)

/-- ITS FALSE NEIGHBOUR: 'it returns false'. Refute it at one input. -/
def evlogGrowsWrong : ChangeSpec := { name := "evlogGrows", fn := fun _ => fun
  | [d] => { results := [.lit (.bool false)], args := [d] }
  | _ => none }
def EvlogGrowsWrongFalsely : Prop := evlogGrowsRow.holds Try.pinned (OpenSpec.ofChange evlogGrowsWrong)

/-- 'grapevinelaw11.EvlogRoom': WHATEVER THE INPUT: true; the input reads as it did. -/
def evlogRoomSpec : ChangeSpec := { name := "evlogRoom", fn := fun _ => fun
  | [d1, d2] => { results := [.lit (.bool true)], args := [d1, d2] }
  | _ => none }
def evlogRoomRow : OpenClaim := { program := "ytejkaciimmfgcaa", sum := "c56cf253098b8328b3e7f1661b20acb3985b931f577a8e6412f8cee0855f07eb", func := "grapevine/grapevinelaw11.EvlogRoom", spec := "evlogRoom", unfollowed := true, recurses := true, apart := false }
def EvlogRoomSaid : Prop := evlogRoomRow.holds Try.pinned (OpenSpec.ofChange evlogRoomSpec)

/-- ITS FALSE NEIGHBOUR: 'it returns false'. Refute it at one input. -/
def evlogRoomWrong : ChangeSpec := { name := "evlogRoom", fn := fun _ => fun
  | [d1, d2] => { results := [.lit (.bool false)], args := [d1, d2] }
  | _ => none }
def EvlogRoomWrongFalsely : Prop := evlogRoomRow.holds Try.pinned (OpenSpec.ofChange evlogRoomWrong)

/-- 'grapevinelaw11.EvlogRange': WHATEVER THE INPUT: true; the input reads as it did. -/
def evlogRangeSpec : ChangeSpec := { name := "evlogRange", fn := fun _ => fun
  | [d1, d2, d3] => { results := [.lit (.bool true)], args := [d1, d2, d3] }
  | _ => none }
def evlogRangeRow : OpenClaim := { program := "ytejkaciimmfgcaa", sum := "c56cf253098b8328b3e7f1661b20acb3985b931f577a8e6412f8cee0855f07eb", func := "grapevine/grapevinelaw11.EvlogRange", spec := "evlogRange", unfollowed := true, recurses := true, apart := false }
def EvlogRangeSaid : Prop := evlogRangeRow.holds Try.pinned (OpenSpec.ofChange evlogRangeSpec)

/-- ITS FALSE NEIGHBOUR: 'it returns false'. Refute it at one input. -/
def evlogRangeWrong : ChangeSpec := { name := "evlogRange", fn := fun _ => fun
  | [d1, d2, d3] => { results := [.lit (.bool false)], args := [d1, d2, d3] }
  | _ => none }
def EvlogRangeWrongFalsely : Prop := evlogRangeRow.holds Try.pinned (OpenSpec.ofChange evlogRangeWrong)

/-- 'grapevinelaw11.EvlogReads': WHATEVER THE INPUT: true; the input reads as it did. -/
def evlogReadsSpec : ChangeSpec := { name := "evlogReads", fn := fun _ => fun
  | [d1, d2] => { results := [.lit (.bool true)], args := [d1, d2] }
  | _ => none }
def evlogReadsRow : OpenClaim := { program := "ytejkaciimmfgcaa", sum := "c56cf253098b8328b3e7f1661b20acb3985b931f577a8e6412f8cee0855f07eb", func := "grapevine/grapevinelaw11.EvlogReads", spec := "evlogReads", unfollowed := true, recurses := true, apart := false }
def EvlogReadsSaid : Prop := evlogReadsRow.holds Try.pinned (OpenSpec.ofChange evlogReadsSpec)

/-- ITS FALSE NEIGHBOUR: 'it returns false'. Refute it at one input. -/
def evlogReadsWrong : ChangeSpec := { name := "evlogReads", fn := fun _ => fun
  | [d1, d2] => { results := [.lit (.bool false)], args := [d1, d2] }
  | _ => none }
def EvlogReadsWrongFalsely : Prop := evlogReadsRow.holds Try.pinned (OpenSpec.ofChange evlogReadsWrong)

/- THE SECOND FORM. 'bulk': how many values and letters a reading holds, each counted each time it is reached (what is shared counts as often as it is met; a slice's spare places count too). A statement '..UptoSaid' is the law's where the arguments, and the package variables that the reading takes, are together of bulk at most 1048576: NARROWER than '..Said'. Prove '..Said' where nothing that the law and all that it calls make is longer than what came in: it says more and counts as full. Else prove '..UptoSaid'. A law counts once. -/
mutual
def uptoBulk {H : Type} : DataW H → Nat
  | .lit (.string bytes) => bytes.length + 1
  | .lit _ => 1
  | .nil => 1
  | .ptr d => uptoBulk d + 1
  | .slice elems spare => uptoBulkAll elems + uptoBulkAll spare + 1
  | .agg parts => uptoBulkAll parts + 1
  | .iface _ d => uptoBulk d + 1
  | .map entries => uptoBulkEntries entries + 1
  | .held _ => 1
def uptoBulkAll {H : Type} : List (DataW H) → Nat
  | [] => 0
  | d :: r => uptoBulk d + uptoBulkAll r
def uptoBulkEntries {H : Type} : List (Lit × DataW H) → Nat
  | [] => 0
  | x :: r => uptoBulkEntry x + uptoBulkEntries r
def uptoBulkEntry {H : Type} : Lit × DataW H → Nat
  | (.string bytes, d) => bytes.length + uptoBulk d + 1
  | (_, d) => uptoBulk d + 1
 end
def uptoSmall : (H : Type) → List (DataW H) → Bool := fun _ ds => decide (uptoBulkAll ds ≤ 1048576)
def OpenSpec.upto (s : _root_.Go.ChangeSpec) : _root_.Go.OpenSpec := { _root_.Go.OpenSpec.ofChange s with cond := some uptoSmall }

/-- 'grapevinelaw12.WheelOnce', WHERE WHAT IT READS IS OF BULK AT MOST 1048576: true; the input reads as it did. -/
def wheelOnceUptoRow : OpenClaim := { program := "ytejkaciimmfgcaa", sum := "c56cf253098b8328b3e7f1661b20acb3985b931f577a8e6412f8cee0855f07eb", func := "grapevine/grapevinelaw12.WheelOnce", spec := "wheelOnce", unfollowed := true, recurses := true, apart := false, narrowed := true }
def WheelOnceUptoSaid : Prop := wheelOnceUptoRow.holds Try.pinned (OpenSpec.upto wheelOnceSpec)

/-- 'grapevinelaw12.WheelCuts', WHERE WHAT IT READS IS OF BULK AT MOST 1048576: true; the input reads as it did. -/
def wheelCutsUptoRow : OpenClaim := { program := "ytejkaciimmfgcaa", sum := "c56cf253098b8328b3e7f1661b20acb3985b931f577a8e6412f8cee0855f07eb", func := "grapevine/grapevinelaw12.WheelCuts", spec := "wheelCuts", unfollowed := true, recurses := true, apart := false, narrowed := true }
def WheelCutsUptoSaid : Prop := wheelCutsUptoRow.holds Try.pinned (OpenSpec.upto wheelCutsSpec)

/-- 'grapevinelaw12.WheelNext', WHERE WHAT IT READS IS OF BULK AT MOST 1048576: true; the input reads as it did. -/
def wheelNextUptoRow : OpenClaim := { program := "ytejkaciimmfgcaa", sum := "c56cf253098b8328b3e7f1661b20acb3985b931f577a8e6412f8cee0855f07eb", func := "grapevine/grapevinelaw12.WheelNext", spec := "wheelNext", unfollowed := true, recurses := true, apart := false, narrowed := true }
def WheelNextUptoSaid : Prop := wheelNextUptoRow.holds Try.pinned (OpenSpec.upto wheelNextSpec)

/-- 'grapevinelaw12.WheelPlays', WHERE WHAT IT READS IS OF BULK AT MOST 1048576: true; the input reads as it did. -/
def wheelPlaysUptoRow : OpenClaim := { program := "ytejkaciimmfgcaa", sum := "c56cf253098b8328b3e7f1661b20acb3985b931f577a8e6412f8cee0855f07eb", func := "grapevine/grapevinelaw12.WheelPlays", spec := "wheelPlays", unfollowed := true, recurses := true, apart := false, narrowed := true }
def WheelPlaysUptoSaid : Prop := wheelPlaysUptoRow.holds Try.pinned (OpenSpec.upto wheelPlaysSpec)

/-- 'grapevinelaw12.WheelForks', WHERE WHAT IT READS IS OF BULK AT MOST 1048576: true; the input reads as it did. -/
def wheelForksUptoRow : OpenClaim := { program := "ytejkaciimmfgcaa", sum := "c56cf253098b8328b3e7f1661b20acb3985b931f577a8e6412f8cee0855f07eb", func := "grapevine/grapevinelaw12.WheelForks", spec := "wheelForks", unfollowed := true, recurses := true, apart := false, narrowed := true }
def WheelForksUptoSaid : Prop := wheelForksUptoRow.holds Try.pinned (OpenSpec.upto wheelForksSpec)

/-- 'grapevinelaw12.WheelNone', WHERE WHAT IT READS IS OF BULK AT MOST 1048576: true; the input reads as it did. -/
def wheelNoneUptoRow : OpenClaim := { program := "ytejkaciimmfgcaa", sum := "c56cf253098b8328b3e7f1661b20acb3985b931f577a8e6412f8cee0855f07eb", func := "grapevine/grapevinelaw12.WheelNone", spec := "wheelNone", unfollowed := true, recurses := true, apart := false, narrowed := true }
def WheelNoneUptoSaid : Prop := wheelNoneUptoRow.holds Try.pinned (OpenSpec.upto wheelNoneSpec)

/-- 'grapevinelaw11.EvlogOpens', WHERE WHAT IT READS IS OF BULK AT MOST 1048576: true; the input reads as it did. -/
def evlogOpensUptoRow : OpenClaim := { program := "ytejkaciimmfgcaa", sum := "c56cf253098b8328b3e7f1661b20acb3985b931f577a8e6412f8cee0855f07eb", func := "grapevine/grapevinelaw11.EvlogOpens", spec := "evlogOpens", unfollowed := true, recurses := true, apart := false, narrowed := true }
def EvlogOpensUptoSaid : Prop := evlogOpensUptoRow.holds Try.pinned (OpenSpec.upto evlogOpensSpec)

/-- 'grapevinelaw11.EvlogNone', WHERE WHAT IT READS IS OF BULK AT MOST 1048576: true; the input reads as it did. -/
def evlogNoneUptoRow : OpenClaim := { program := "ytejkaciimmfgcaa", sum := "c56cf253098b8328b3e7f1661b20acb3985b931f577a8e6412f8cee0855f07eb", func := "grapevine/grapevinelaw11.EvlogNone", spec := "evlogNone", unfollowed := true, recurses := true, apart := false, narrowed := true }
def EvlogNoneUptoSaid : Prop := evlogNoneUptoRow.holds Try.pinned (OpenSpec.upto evlogNoneSpec)

/-- 'grapevinelaw11.EvlogGrows', WHERE WHAT IT READS IS OF BULK AT MOST 1048576: true; the input reads as it did. -/
def evlogGrowsUptoRow : OpenClaim := { program := "ytejkaciimmfgcaa", sum := "c56cf253098b8328b3e7f1661b20acb3985b931f577a8e6412f8cee0855f07eb", func := "grapevine/grapevinelaw11.EvlogGrows", spec := "evlogGrows", unfollowed := true, recurses := true, apart := false, narrowed := true }
def EvlogGrowsUptoSaid : Prop := evlogGrowsUptoRow.holds Try.pinned (OpenSpec.upto evlogGrowsSpec)

/-- 'grapevinelaw11.EvlogRoom', WHERE WHAT IT READS IS OF BULK AT MOST 1048576: true; the input reads as it did. -/
def evlogRoomUptoRow : OpenClaim := { program := "ytejkaciimmfgcaa", sum := "c56cf253098b8328b3e7f1661b20acb3985b931f577a8e6412f8cee0855f07eb", func := "grapevine/grapevinelaw11.EvlogRoom", spec := "evlogRoom", unfollowed := true, recurses := true, apart := false, narrowed := true }
def EvlogRoomUptoSaid : Prop := evlogRoomUptoRow.holds Try.pinned (OpenSpec.upto evlogRoomSpec)

/-- 'grapevinelaw11.EvlogRange', WHERE WHAT IT READS IS OF BULK AT MOST 1048576: true; the input reads as it did. -/
def evlogRangeUptoRow : OpenClaim := { program := "ytejkaciimmfgcaa", sum := "c56cf253098b8328b3e7f1661b20acb3985b931f577a8e6412f8cee0855f07eb", func := "grapevine/grapevinelaw11.EvlogRange", spec := "evlogRange", unfollowed := true, recurses := true, apart := false, narrowed := true }
def EvlogRangeUptoSaid : Prop := evlogRangeUptoRow.holds Try.pinned (OpenSpec.upto evlogRangeSpec)

/-- 'grapevinelaw11.EvlogReads', WHERE WHAT IT READS IS OF BULK AT MOST 1048576: true; the input reads as it did. -/
def evlogReadsUptoRow : OpenClaim := { program := "ytejkaciimmfgcaa", sum := "c56cf253098b8328b3e7f1661b20acb3985b931f577a8e6412f8cee0855f07eb", func := "grapevine/grapevinelaw11.EvlogReads", spec := "evlogReads", unfollowed := true, recurses := true, apart := false, narrowed := true }
def EvlogReadsUptoSaid : Prop := evlogReadsUptoRow.holds Try.pinned (OpenSpec.upto evlogReadsSpec)

end Rows
end Go.Proofs.Ytejkaciimmfgcaa
