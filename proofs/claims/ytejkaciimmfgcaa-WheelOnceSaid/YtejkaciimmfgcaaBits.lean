/- math/bits.Len by the library's contract. -/
import Derived.Test.YtejkaciimmfgcaaClo
import Derived.Shelf.Lay
import Derived.Shelf.Small.Bits
namespace Go.Proofs
open Go.Shelf
shelf_lay Lays.n125 Nm 125 at Try as Try.lays125
end Go.Proofs
namespace Go.Proofs.Ytejkaciimmfgcaa.D
open Go
/-- How many bits a number has. -/
noncomputable def bits_Len (x : Int) (w : World) : Option (Int × World) := if 0 ≤ x ∧ x ≤ 18446744073709551615 then some (Lib.bitLen x.toNat, w) else none
theorem bits_Len_ok {a0 : Int} {w w' : World} {r0 : Int} (h : bits_Len a0 w = some (r0, w')) : Calls Try.prog 103 #[.int .u64 a0] w fun e w'' => e = .returned (.int .i64 r0) ∧ w'' = w' := by
  unfold bits_Len at h
  split at h
  · rename_i hh
    cases h
    exact Any.bits_Len Try.lays125 a0 w hh.1 hh.2
  · cases h
end Go.Proofs.Ytejkaciimmfgcaa.D
