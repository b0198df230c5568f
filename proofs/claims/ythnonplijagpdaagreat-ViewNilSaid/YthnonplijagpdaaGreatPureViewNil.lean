/- The law ViewNil: all is computed; neither the page nor the name is looked at. -/
import Derived.Test.YthnonplijagpdaaGreatF
namespace Go.Proofs.YthnonplijagpdaaGreat.P
open Go Go.Proofs.YthnonplijagpdaaGreat.V
set_option maxRecDepth 100000
theorem viewNil_true (page : Int) (name : List Int) (_ : V.Good E (.int .i64 page)) (_ : V.Good E (.str name)) : law28_ViewNil page name = some true :=
 law28_ViewNil_F_le 300 page name _ (by kernel_rfl)
end Go.Proofs.YthnonplijagpdaaGreat.P
