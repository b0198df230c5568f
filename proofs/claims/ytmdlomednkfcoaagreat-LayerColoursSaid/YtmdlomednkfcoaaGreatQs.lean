/- All equations. Printed by wip/tool/vsym.py. -/
import Derived.Test.YtmdlomednkfcoaaGreatQ0
import Derived.Test.YtmdlomednkfcoaaGreatQ1
namespace Go.Proofs.YtmdlomednkfcoaaGreat.P
end Go.Proofs.YtmdlomednkfcoaaGreat.P
