/- All equations. Printed by wip/tool/vsym.py. -/
import Derived.Test.YtgffdmgidnnedaaGreatQ0
import Derived.Test.YtgffdmgidnnedaaGreatQ1
import Derived.Test.YtgffdmgidnnedaaGreatQ2
namespace Go.Proofs.YtgffdmgidnnedaaGreat.P
end Go.Proofs.YtgffdmgidnnedaaGreat.P
