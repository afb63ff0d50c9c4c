/- All printed functions of this part. -/
import Derived.Test.YtejkaciimmfgcaaFnW
import Derived.Test.YtejkaciimmfgcaaFnU
import Derived.Test.YtejkaciimmfgcaaFnX0
namespace Go.Proofs.Ytejkaciimmfgcaa.D
end Go.Proofs.Ytejkaciimmfgcaa.D
