/- All equations. Printed by wip/tool/vsym.py. -/
import Derived.Test.YthnonplijagpdaaGreatQ0
import Derived.Test.YthnonplijagpdaaGreatQ1
import Derived.Test.YthnonplijagpdaaGreatQ2
namespace Go.Proofs.YthnonplijagpdaaGreat.P
end Go.Proofs.YthnonplijagpdaaGreat.P
