/- All printed functions of this part. -/
import Derived.Test.YtejkaciimmfgcaaFnC0
namespace Go.Proofs.Ytejkaciimmfgcaa.D
end Go.Proofs.Ytejkaciimmfgcaa.D
