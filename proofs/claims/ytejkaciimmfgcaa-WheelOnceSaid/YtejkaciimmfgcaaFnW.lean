/- All printed functions of this part. -/
import Derived.Test.YtejkaciimmfgcaaFnW0
import Derived.Test.YtejkaciimmfgcaaFnW1
namespace Go.Proofs.Ytejkaciimmfgcaa.D
end Go.Proofs.Ytejkaciimmfgcaa.D
