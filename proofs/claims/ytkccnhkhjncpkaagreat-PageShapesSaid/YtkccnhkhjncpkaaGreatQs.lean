/- All equations. Printed by wip/tool/vsym.py. -/
import Derived.Test.YtkccnhkhjncpkaaGreatQ0
import Derived.Test.YtkccnhkhjncpkaaGreatQ1
import Derived.Test.YtkccnhkhjncpkaaGreatQ2
import Derived.Test.YtkccnhkhjncpkaaGreatQ3
namespace Go.Proofs.YtkccnhkhjncpkaaGreat.P
end Go.Proofs.YtkccnhkhjncpkaaGreat.P
