/- Two digests that are not the same. -/
import Derived.Test.YtflckjabjhmnfaaDoorPass
namespace Go.Proofs.YtflckjabjhmnfaaDoor
theorem apart_pass : ¬ (passB [115] [111, 116, 104, 101, 114] 4 = passB [115] [115, 101, 99, 114, 101, 116] 4) := by decide +kernel
end Go.Proofs.YtflckjabjhmnfaaDoor
