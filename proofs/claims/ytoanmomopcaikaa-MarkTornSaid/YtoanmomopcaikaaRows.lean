/-
  No cell of these rows narrows 'for every input' (looked for: loops, veiled, ifaces, maps, wideKeys, modest, calm, conditions, laid).
  DERIVED. THE GIVEN ROWS OF THIS SEAT. 14 by the template 'for every input the law returns true; each argument reads behind the call as it read before'; 0 by the template 'total and deterministic' (their statements: YtoanmomopcaikaaTotals.lean).
  GIVEN WITH THE SEED: the statements are not yours to turn. If you find one false, say at which input.
  Laid BY PROGRAM, IN A SANDBOX (cutbox-rows.mjs): the forced cells as the released guide's own fill.sh prints them over the translation e43e9cfac4b3db47… (all of the seat's roots in one cut). By AI agents, Wed Nov 11 2026. No macro, syntax, notation, axiom, sorry.
-/
import Derived.Test.YtoanmomopcaikaaChecked
import GoSem.Claim
import GoSem.ClaimJoined
import GoSem.ClaimMapViews
import Derived.JoinedTies
import Derived.KernelRfl
namespace Go.Proofs.Ytoanmomopcaikaa
/- THE CELL 'sum', in the pinned program and in every row, IS THE sha256 OF THE DUMP (.gsa) THAT YtoanmomopcaikaaProg.lean LOADS. Nothing in Lean hashes anything: it is a label: what it is worth is what the hold of that sum in a sandbox is worth. -/
noncomputable def Try.pinned : Pinned := { name := "ytoanmomopcaikaa", sum := "e43e9cfac4b3db47fd623bbb44e165e3a70c2bc11e697f523480d5736cc985c1", checked := Try.checked }
namespace Rows
def none {H : Type} : Left H := { results := [], args := [] }

/-- 'grapevinelaw09.SectorNew': WHATEVER THE INPUT: true; the input reads as it did. -/
def sectorNewSpec : ChangeSpec := { name := "sectorNew", fn := fun _ => fun
  | [d] => { results := [.lit (.bool true)], args := [d] }
  | _ => none }
def sectorNewRow : OpenClaim := { program := "ytoanmomopcaikaa", sum := "e43e9cfac4b3db47fd623bbb44e165e3a70c2bc11e697f523480d5736cc985c1", func := "grapevine/grapevinelaw09.SectorNew", spec := "sectorNew", apart := false }
def SectorNewSaid : Prop := sectorNewRow.holds Try.pinned (OpenSpec.ofChange sectorNewSpec)

/-- ITS FALSE NEIGHBOUR: 'it returns false'. Refute it at one input. -/
def sectorNewWrong : ChangeSpec := { name := "sectorNew", fn := fun _ => fun
  | [d] => { results := [.lit (.bool false)], args := [d] }
  | _ => none }
def SectorNewWrongFalsely : Prop := sectorNewRow.holds Try.pinned (OpenSpec.ofChange sectorNewWrong)

/-- 'grapevinelaw09.SectorTorn': WHATEVER THE INPUT: true; the input reads as it did. -/
def sectorTornSpec : ChangeSpec := { name := "sectorTorn", fn := fun _ => fun
  | [d1, d2, d3] => { results := [.lit (.bool true)], args := [d1, d2, d3] }
  | _ => none }
def sectorTornRow : OpenClaim := { program := "ytoanmomopcaikaa", sum := "e43e9cfac4b3db47fd623bbb44e165e3a70c2bc11e697f523480d5736cc985c1", func := "grapevine/grapevinelaw09.SectorTorn", spec := "sectorTorn", apart := false }
def SectorTornSaid : Prop := sectorTornRow.holds Try.pinned (OpenSpec.ofChange sectorTornSpec)

/-- ITS FALSE NEIGHBOUR: 'it returns false'. Refute it at one input. -/
def sectorTornWrong : ChangeSpec := { name := "sectorTorn", fn := fun _ => fun
  | [d1, d2, d3] => { results := [.lit (.bool false)], args := [d1, d2, d3] }
  | _ => none }
def SectorTornWrongFalsely : Prop := sectorTornRow.holds Try.pinned (OpenSpec.ofChange sectorTornWrong)

/-- 'grapevinelaw09.SectorTrips': WHATEVER THE INPUT: true; the input reads as it did. -/
def sectorTripsSpec : ChangeSpec := { name := "sectorTrips", fn := fun _ => fun
  | [d1, d2] => { results := [.lit (.bool true)], args := [d1, d2] }
  | _ => none }
def sectorTripsRow : OpenClaim := { program := "ytoanmomopcaikaa", sum := "e43e9cfac4b3db47fd623bbb44e165e3a70c2bc11e697f523480d5736cc985c1", func := "grapevine/grapevinelaw09.SectorTrips", spec := "sectorTrips", apart := false }
def SectorTripsSaid : Prop := sectorTripsRow.holds Try.pinned (OpenSpec.ofChange sectorTripsSpec)

/-- ITS FALSE NEIGHBOUR: 'it returns false'. Refute it at one input. -/
def sectorTripsWrong : ChangeSpec := { name := "sectorTrips", fn := fun _ => fun
  | [d1, d2] => { results := [.lit (.bool false)], args := [d1, d2] }
  | _ => none }
def SectorTripsWrongFalsely : Prop := sectorTripsRow.holds Try.pinned (OpenSpec.ofChange sectorTripsWrong)

/-- 'grapevinelaw09.SectorLasts': WHATEVER THE INPUT: true; the input reads as it did. -/
def sectorLastsSpec : ChangeSpec := { name := "sectorLasts", fn := fun _ => fun
  | [d1, d2, d3] => { results := [.lit (.bool true)], args := [d1, d2, d3] }
  | _ => none }
def sectorLastsRow : OpenClaim := { program := "ytoanmomopcaikaa", sum := "e43e9cfac4b3db47fd623bbb44e165e3a70c2bc11e697f523480d5736cc985c1", func := "grapevine/grapevinelaw09.SectorLasts", spec := "sectorLasts", apart := false }
def SectorLastsSaid : Prop := sectorLastsRow.holds Try.pinned (OpenSpec.ofChange sectorLastsSpec)

/-- ITS FALSE NEIGHBOUR: 'it returns false'. Refute it at one input. -/
def sectorLastsWrong : ChangeSpec := { name := "sectorLasts", fn := fun _ => fun
  | [d1, d2, d3] => { results := [.lit (.bool false)], args := [d1, d2, d3] }
  | _ => none }
def SectorLastsWrongFalsely : Prop := sectorLastsRow.holds Try.pinned (OpenSpec.ofChange sectorLastsWrong)

/-- 'grapevinelaw09.SectorPlays': WHATEVER THE INPUT: true; the input reads as it did. -/
def sectorPlaysSpec : ChangeSpec := { name := "sectorPlays", fn := fun _ => fun
  | [d1, d2] => { results := [.lit (.bool true)], args := [d1, d2] }
  | _ => none }
def sectorPlaysRow : OpenClaim := { program := "ytoanmomopcaikaa", sum := "e43e9cfac4b3db47fd623bbb44e165e3a70c2bc11e697f523480d5736cc985c1", func := "grapevine/grapevinelaw09.SectorPlays", spec := "sectorPlays", apart := false }
def SectorPlaysSaid : Prop := sectorPlaysRow.holds Try.pinned (OpenSpec.ofChange sectorPlaysSpec)

/-- ITS FALSE NEIGHBOUR: 'it returns false'. Refute it at one input. -/
def sectorPlaysWrong : ChangeSpec := { name := "sectorPlays", fn := fun _ => fun
  | [d1, d2] => { results := [.lit (.bool false)], args := [d1, d2] }
  | _ => none }
def SectorPlaysWrongFalsely : Prop := sectorPlaysRow.holds Try.pinned (OpenSpec.ofChange sectorPlaysWrong)

/-- 'grapevinelaw09.SectorAll': WHATEVER THE INPUT: true; the input reads as it did. -/
def sectorAllSpec : ChangeSpec := { name := "sectorAll", fn := fun _ => fun
  | [d] => { results := [.lit (.bool true)], args := [d] }
  | _ => none }
def sectorAllRow : OpenClaim := { program := "ytoanmomopcaikaa", sum := "e43e9cfac4b3db47fd623bbb44e165e3a70c2bc11e697f523480d5736cc985c1", func := "grapevine/grapevinelaw09.SectorAll", spec := "sectorAll", apart := false }
def SectorAllSaid : Prop := sectorAllRow.holds Try.pinned (OpenSpec.ofChange sectorAllSpec)

/-- ITS FALSE NEIGHBOUR: 'it returns false'. Refute it at one input. -/
def sectorAllWrong : ChangeSpec := { name := "sectorAll", fn := fun _ => fun
  | [d] => { results := [.lit (.bool false)], args := [d] }
  | _ => none }
def SectorAllWrongFalsely : Prop := sectorAllRow.holds Try.pinned (OpenSpec.ofChange sectorAllWrong)

/-- 'grapevinelaw09.SectorForks': WHATEVER THE INPUT: true; the input reads as it did. -/
def sectorForksSpec : ChangeSpec := { name := "sectorForks", fn := fun _ => fun
  | [d1, d2] => { results := [.lit (.bool true)], args := [d1, d2] }
  | _ => none }
def sectorForksRow : OpenClaim := { program := "ytoanmomopcaikaa", sum := "e43e9cfac4b3db47fd623bbb44e165e3a70c2bc11e697f523480d5736cc985c1", func := "grapevine/grapevinelaw09.SectorForks", spec := "sectorForks", apart := false }
def SectorForksSaid : Prop := sectorForksRow.holds Try.pinned (OpenSpec.ofChange sectorForksSpec)

/-- ITS FALSE NEIGHBOUR: 'it returns false'. Refute it at one input. -/
def sectorForksWrong : ChangeSpec := { name := "sectorForks", fn := fun _ => fun
  | [d1, d2] => { results := [.lit (.bool false)], args := [d1, d2] }
  | _ => none }
def SectorForksWrongFalsely : Prop := sectorForksRow.holds Try.pinned (OpenSpec.ofChange sectorForksWrong)

/-- 'grapevinelaw09.SectorNone': WHATEVER THE INPUT: true; the input reads as it did. -/
def sectorNoneSpec : ChangeSpec := { name := "sectorNone", fn := fun _ => fun
  | [d1, d2] => { results := [.lit (.bool true)], args := [d1, d2] }
  | _ => none }
def sectorNoneRow : OpenClaim := { program := "ytoanmomopcaikaa", sum := "e43e9cfac4b3db47fd623bbb44e165e3a70c2bc11e697f523480d5736cc985c1", func := "grapevine/grapevinelaw09.SectorNone", spec := "sectorNone", apart := false }
def SectorNoneSaid : Prop := sectorNoneRow.holds Try.pinned (OpenSpec.ofChange sectorNoneSpec)

/-- ITS FALSE NEIGHBOUR: 'it returns false'. Refute it at one input. -/
def sectorNoneWrong : ChangeSpec := { name := "sectorNone", fn := fun _ => fun
  | [d1, d2] => { results := [.lit (.bool false)], args := [d1, d2] }
  | _ => none }
def SectorNoneWrongFalsely : Prop := sectorNoneRow.holds Try.pinned (OpenSpec.ofChange sectorNoneWrong)

/-- 'grapevinelaw10.MarkNone': WHATEVER THE INPUT: true; the input reads as it did. -/
def markNoneSpec : ChangeSpec := { name := "markNone", fn := fun _ => fun
  | [d1, d2] => { results := [.lit (.bool true)], args := [d1, d2] }
  | _ => none }
def markNoneRow : OpenClaim := { program := "ytoanmomopcaikaa", sum := "e43e9cfac4b3db47fd623bbb44e165e3a70c2bc11e697f523480d5736cc985c1", func := "grapevine/grapevinelaw10.MarkNone", spec := "markNone", apart := false }
def MarkNoneSaid : Prop := markNoneRow.holds Try.pinned (OpenSpec.ofChange markNoneSpec)

/-- ITS FALSE NEIGHBOUR: 'it returns false'. Refute it at one input. -/
def markNoneWrong : ChangeSpec := { name := "markNone", fn := fun _ => fun
  | [d1, d2] => { results := [.lit (.bool false)], args := [d1, d2] }
  | _ => none }
def MarkNoneWrongFalsely : Prop := markNoneRow.holds Try.pinned (OpenSpec.ofChange markNoneWrong)

/-- 'grapevinelaw10.MarkOpens': WHATEVER THE INPUT: true; the input reads as it did. -/
def markOpensSpec : ChangeSpec := { name := "markOpens", fn := fun _ => fun
  | [d1, d2, d3] => { results := [.lit (.bool true)], args := [d1, d2, d3] }
  | _ => none }
def markOpensRow : OpenClaim := { program := "ytoanmomopcaikaa", sum := "e43e9cfac4b3db47fd623bbb44e165e3a70c2bc11e697f523480d5736cc985c1", func := "grapevine/grapevinelaw10.MarkOpens", spec := "markOpens", apart := false }
def MarkOpensSaid : Prop := markOpensRow.holds Try.pinned (OpenSpec.ofChange markOpensSpec)

/-- ITS FALSE NEIGHBOUR: 'it returns false'. Refute it at one input. -/
def markOpensWrong : ChangeSpec := { name := "markOpens", fn := fun _ => fun
  | [d1, d2, d3] => { results := [.lit (.bool false)], args := [d1, d2, d3] }
  | _ => none }
def MarkOpensWrongFalsely : Prop := markOpensRow.holds Try.pinned (OpenSpec.ofChange markOpensWrong)

/-- 'grapevinelaw10.MarkPlays': WHATEVER THE INPUT: true; the input reads as it did. -/
def markPlaysSpec : ChangeSpec := { name := "markPlays", fn := fun _ => fun
  | [d] => { results := [.lit (.bool true)], args := [d] }
  | _ => none }
def markPlaysRow : OpenClaim := { program := "ytoanmomopcaikaa", sum := "e43e9cfac4b3db47fd623bbb44e165e3a70c2bc11e697f523480d5736cc985c1", func := "grapevine/grapevinelaw10.MarkPlays", spec := "markPlays", apart := false }
def MarkPlaysSaid : Prop := markPlaysRow.holds Try.pinned (OpenSpec.ofChange markPlaysSpec)

/-- ITS FALSE NEIGHBOUR: 'it returns false'. Refute it at one input. -/
def markPlaysWrong : ChangeSpec := { name := "markPlays", fn := fun _ => fun
  | [d] => { results := [.lit (.bool false)], args := [d] }
  | _ => none }
def MarkPlaysWrongFalsely : Prop := markPlaysRow.holds Try.pinned (OpenSpec.ofChange markPlaysWrong)

/-- 'grapevinelaw10.MarkBack': WHATEVER THE INPUT: true; the input reads as it did. -/
def markBackSpec : ChangeSpec := { name := "markBack", fn := fun _ => fun
  | [d1, d2, d3] => { results := [.lit (.bool true)], args := [d1, d2, d3] }
  | _ => none }
def markBackRow : OpenClaim := { program := "ytoanmomopcaikaa", sum := "e43e9cfac4b3db47fd623bbb44e165e3a70c2bc11e697f523480d5736cc985c1", func := "grapevine/grapevinelaw10.MarkBack", spec := "markBack", apart := false }
def MarkBackSaid : Prop := markBackRow.holds Try.pinned (OpenSpec.ofChange markBackSpec)

/-- ITS FALSE NEIGHBOUR: 'it returns false'. Refute it at one input. -/
def markBackWrong : ChangeSpec := { name := "markBack", fn := fun _ => fun
  | [d1, d2, d3] => { results := [.lit (.bool false)], args := [d1, d2, d3] }
  | _ => none }
def MarkBackWrongFalsely : Prop := markBackRow.holds Try.pinned (OpenSpec.ofChange markBackWrong)

/-- 'grapevinelaw10.MarkTorn': WHATEVER THE INPUT: true; the input reads as it did. -/
def markTornSpec : ChangeSpec := { name := "markTorn", fn := fun _ => fun
  | [d1, d2, d3] => { results := [.lit (.bool true)], args := [d1, d2, d3] }
  | _ => none }
def markTornRow : OpenClaim := { program := "ytoanmomopcaikaa", sum := "e43e9cfac4b3db47fd623bbb44e165e3a70c2bc11e697f523480d5736cc985c1", func := "grapevine/grapevinelaw10.MarkTorn", spec := "markTorn", apart := false }
def MarkTornSaid : Prop := markTornRow.holds Try.pinned (OpenSpec.ofChange markTornSpec)

/-- ITS FALSE NEIGHBOUR: 'it returns false'. Refute it at one input. -/
def markTornWrong : ChangeSpec := { name := "markTorn", fn := fun _ => fun
  | [d1, d2, d3] => { results := [.lit (.bool false)], args := [d1, d2, d3] }
  | _ => none }
def MarkTornWrongFalsely : Prop := markTornRow.holds Try.pinned (OpenSpec.ofChange markTornWrong)

/-- 'grapevinelaw10.MarkLasts': WHATEVER THE INPUT: true; the input reads as it did. -/
def markLastsSpec : ChangeSpec := { name := "markLasts", fn := fun _ => fun
  | [d1, d2, d3] => { results := [.lit (.bool true)], args := [d1, d2, d3] }
  | _ => none }
def markLastsRow : OpenClaim := { program := "ytoanmomopcaikaa", sum := "e43e9cfac4b3db47fd623bbb44e165e3a70c2bc11e697f523480d5736cc985c1", func := "grapevine/grapevinelaw10.MarkLasts", spec := "markLasts", apart := false }
def MarkLastsSaid : Prop := markLastsRow.holds Try.pinned (OpenSpec.ofChange markLastsSpec)

/-- ITS FALSE NEIGHBOUR: 'it returns false'. Refute it at one input. -/
def markLastsWrong : ChangeSpec := { name := "markLasts", fn := fun _ => fun
  | [d1, d2, d3] => { results := [.lit (.bool false)], args := [d1, d2, d3] }
  | _ => none }
def MarkLastsWrongFalsely : Prop := markLastsRow.holds Try.pinned (OpenSpec.ofChange markLastsWrong)

/- THE SECOND FORM. 'bulk': how many values and letters a reading holds, each counted each time it is reached (what is shared counts as often as it is met; a slice's spare places count too). A statement '..UptoSaid' is the law's where the arguments, and the package variables that the reading takes, are together of bulk at most 1048576: NARROWER than '..Said'. Prove '..Said' where nothing that the law and all that it calls make is longer than what came in: it says more and counts as full. Else prove '..UptoSaid'. A law counts once. -/
mutual
def uptoBulk {H : Type} : DataW H → Nat
  | .lit (.string bytes) => bytes.length + 1
  | .lit _ => 1
  | .nil => 1
  | .ptr d => uptoBulk d + 1
  | .slice elems spare => uptoBulkAll elems + uptoBulkAll spare + 1
  | .agg parts => uptoBulkAll parts + 1
  | .iface _ d => uptoBulk d + 1
  | .map entries => uptoBulkEntries entries + 1
  | .held _ => 1
def uptoBulkAll {H : Type} : List (DataW H) → Nat
  | [] => 0
  | d :: r => uptoBulk d + uptoBulkAll r
def uptoBulkEntries {H : Type} : List (Lit × DataW H) → Nat
  | [] => 0
  | x :: r => uptoBulkEntry x + uptoBulkEntries r
def uptoBulkEntry {H : Type} : Lit × DataW H → Nat
  | (.string bytes, d) => bytes.length + uptoBulk d + 1
  | (_, d) => uptoBulk d + 1
 end
def uptoSmall : (H : Type) → List (DataW H) → Bool := fun _ ds => decide (uptoBulkAll ds ≤ 1048576)
def OpenSpec.upto (s : _root_.Go.ChangeSpec) : _root_.Go.OpenSpec := { _root_.Go.OpenSpec.ofChange s with cond := some uptoSmall }

/-- 'grapevinelaw09.SectorNew', WHERE WHAT IT READS IS OF BULK AT MOST 1048576: true; the input reads as it did. -/
def sectorNewUptoRow : OpenClaim := { program := "ytoanmomopcaikaa", sum := "e43e9cfac4b3db47fd623bbb44e165e3a70c2bc11e697f523480d5736cc985c1", func := "grapevine/grapevinelaw09.SectorNew", spec := "sectorNew", apart := false, narrowed := true }
def SectorNewUptoSaid : Prop := sectorNewUptoRow.holds Try.pinned (OpenSpec.upto sectorNewSpec)

/-- 'grapevinelaw09.SectorTorn', WHERE WHAT IT READS IS OF BULK AT MOST 1048576: true; the input reads as it did. -/
def sectorTornUptoRow : OpenClaim := { program := "ytoanmomopcaikaa", sum := "e43e9cfac4b3db47fd623bbb44e165e3a70c2bc11e697f523480d5736cc985c1", func := "grapevine/grapevinelaw09.SectorTorn", spec := "sectorTorn", apart := false, narrowed := true }
def SectorTornUptoSaid : Prop := sectorTornUptoRow.holds Try.pinned (OpenSpec.upto sectorTornSpec)

/-- 'grapevinelaw09.SectorTrips', WHERE WHAT IT READS IS OF BULK AT MOST 1048576: true; the input reads as it did. -/
def sectorTripsUptoRow : OpenClaim := { program := "ytoanmomopcaikaa", sum := "e43e9cfac4b3db47fd623bbb44e165e3a70c2bc11e697f523480d5736cc985c1", func := "grapevine/grapevinelaw09.SectorTrips", spec := "sectorTrips", apart := false, narrowed := true }
def SectorTripsUptoSaid : Prop := sectorTripsUptoRow.holds Try.pinned (OpenSpec.upto sectorTripsSpec)

/-- 'grapevinelaw09.SectorLasts', WHERE WHAT IT READS IS OF BULK AT MOST 1048576: true; the input reads as it did. -/
def sectorLastsUptoRow : OpenClaim := { program := "ytoanmomopcaikaa", sum := "e43e9cfac4b3db47fd623bbb44e165e3a70c2bc11e697f523480d5736cc985c1", func := "grapevine/grapevinelaw09.SectorLasts", spec := "sectorLasts", apart := false, narrowed := true }
def SectorLastsUptoSaid : Prop := sectorLastsUptoRow.holds Try.pinned (OpenSpec.upto sectorLastsSpec)

/-- 'grapevinelaw09.SectorPlays', WHERE WHAT IT READS IS OF BULK AT MOST 1048576: true; the input reads as it did. -/
def sectorPlaysUptoRow : OpenClaim := { program := "ytoanmomopcaikaa", sum := "e43e9cfac4b3db47fd623bbb44e165e3a70c2bc11e697f523480d5736cc985c1", func := "grapevine/grapevinelaw09.SectorPlays", spec := "sectorPlays", apart := false, narrowed := true }
def SectorPlaysUptoSaid : Prop := sectorPlaysUptoRow.holds Try.pinned (OpenSpec.upto sectorPlaysSpec)

/-- 'grapevinelaw09.SectorAll', WHERE WHAT IT READS IS OF BULK AT MOST 1048576: true; the input reads as it did. -/
def sectorAllUptoRow : OpenClaim := { program := "ytoanmomopcaikaa", sum := "e43e9cfac4b3db47fd623bbb44e165e3a70c2bc11e697f523480d5736cc985c1", func := "grapevine/grapevinelaw09.SectorAll", spec := "sectorAll", apart := false, narrowed := true }
def SectorAllUptoSaid : Prop := sectorAllUptoRow.holds Try.pinned (OpenSpec.upto sectorAllSpec)

/-- 'grapevinelaw09.SectorForks', WHERE WHAT IT READS IS OF BULK AT MOST 1048576: true; the input reads as it did. -/
def sectorForksUptoRow : OpenClaim := { program := "ytoanmomopcaikaa", sum := "e43e9cfac4b3db47fd623bbb44e165e3a70c2bc11e697f523480d5736cc985c1", func := "grapevine/grapevinelaw09.SectorForks", spec := "sectorForks", apart := false, narrowed := true }
def SectorForksUptoSaid : Prop := sectorForksUptoRow.holds Try.pinned (OpenSpec.upto sectorForksSpec)

/-- 'grapevinelaw09.SectorNone', WHERE WHAT IT READS IS OF BULK AT MOST 1048576: true; the input reads as it did. -/
def sectorNoneUptoRow : OpenClaim := { program := "ytoanmomopcaikaa", sum := "e43e9cfac4b3db47fd623bbb44e165e3a70c2bc11e697f523480d5736cc985c1", func := "grapevine/grapevinelaw09.SectorNone", spec := "sectorNone", apart := false, narrowed := true }
def SectorNoneUptoSaid : Prop := sectorNoneUptoRow.holds Try.pinned (OpenSpec.upto sectorNoneSpec)

/-- 'grapevinelaw10.MarkNone', WHERE WHAT IT READS IS OF BULK AT MOST 1048576: true; the input reads as it did. -/
def markNoneUptoRow : OpenClaim := { program := "ytoanmomopcaikaa", sum := "e43e9cfac4b3db47fd623bbb44e165e3a70c2bc11e697f523480d5736cc985c1", func := "grapevine/grapevinelaw10.MarkNone", spec := "markNone", apart := false, narrowed := true }
def MarkNoneUptoSaid : Prop := markNoneUptoRow.holds Try.pinned (OpenSpec.upto markNoneSpec)

/-- 'grapevinelaw10.MarkOpens', WHERE WHAT IT READS IS OF BULK AT MOST 1048576: true; the input reads as it did. -/
def markOpensUptoRow : OpenClaim := { program := "ytoanmomopcaikaa", sum := "e43e9cfac4b3db47fd623bbb44e165e3a70c2bc11e697f523480d5736cc985c1", func := "grapevine/grapevinelaw10.MarkOpens", spec := "markOpens", apart := false, narrowed := true }
def MarkOpensUptoSaid : Prop := markOpensUptoRow.holds Try.pinned (OpenSpec.upto markOpensSpec)

/-- 'grapevinelaw10.MarkPlays', WHERE WHAT IT READS IS OF BULK AT MOST 1048576: true; the input reads as it did. -/
def markPlaysUptoRow : OpenClaim := { program := "ytoanmomopcaikaa", sum := "e43e9cfac4b3db47fd623bbb44e165e3a70c2bc11e697f523480d5736cc985c1", func := "grapevine/grapevinelaw10.MarkPlays", spec := "markPlays", apart := false, narrowed := true }
def MarkPlaysUptoSaid : Prop := markPlaysUptoRow.holds Try.pinned (OpenSpec.upto markPlaysSpec)

/-- 'grapevinelaw10.MarkBack', WHERE WHAT IT READS IS OF BULK AT MOST 1048576: true; the input reads as it did. -/
def markBackUptoRow : OpenClaim := { program := "ytoanmomopcaikaa", sum := "e43e9cfac4b3db47fd623bbb44e165e3a70c2bc11e697f523480d5736cc985c1", func := "grapevine/grapevinelaw10.MarkBack", spec := "markBack", apart := false, narrowed := true }
def MarkBackUptoSaid : Prop := markBackUptoRow.holds Try.pinned (OpenSpec.upto markBackSpec)

/-- 'grapevinelaw10.MarkTorn', WHERE WHAT IT READS IS OF BULK AT MOST 1048576: true; the input reads as it did. -/
def markTornUptoRow : OpenClaim := { program := "ytoanmomopcaikaa", sum := "e43e9cfac4b3db47fd623bbb44e165e3a70c2bc11e697f523480d5736cc985c1", func := "grapevine/grapevinelaw10.MarkTorn", spec := "markTorn", apart := false, narrowed := true }
def MarkTornUptoSaid : Prop := markTornUptoRow.holds Try.pinned (OpenSpec.upto markTornSpec)

/-- 'grapevinelaw10.MarkLasts', WHERE WHAT IT READS IS OF BULK AT MOST 1048576: true; the input reads as it did. -/
def markLastsUptoRow : OpenClaim := { program := "ytoanmomopcaikaa", sum := "e43e9cfac4b3db47fd623bbb44e165e3a70c2bc11e697f523480d5736cc985c1", func := "grapevine/grapevinelaw10.MarkLasts", spec := "markLasts", apart := false, narrowed := true }
def MarkLastsUptoSaid : Prop := markLastsUptoRow.holds Try.pinned (OpenSpec.upto markLastsSpec)

end Rows
end Go.Proofs.Ytoanmomopcaikaa
