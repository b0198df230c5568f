import Derived.Test.YtcphcfknnfibmaaGreatQ0
import Derived.Test.YtcphcfknnfibmaaGreatQ1
import Derived.Test.YtcphcfknnfibmaaGreatQ2
namespace Go.Proofs.YtcphcfknnfibmaaGreat.P
end Go.Proofs.YtcphcfknnfibmaaGreat.P
