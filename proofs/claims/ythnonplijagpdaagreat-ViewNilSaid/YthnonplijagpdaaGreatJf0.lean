/- The closed facts of the row of ViewNil, one by one. -/
import Derived.Test.YthnonplijagpdaaGreatRows
import Derived.JoinedOf
import Derived.KernelRfl

namespace Go.Proofs.YthnonplijagpdaaGreat.viewNil
open Go Go.Proofs Go.Proofs.YthnonplijagpdaaGreat
set_option maxRecDepth 100000
theorem jf0 : (Rows.viewNilRow.wf (OpenSpec.ofChange Rows.viewNilSpec)) = true := by kernel_rfl
theorem jf1 : (laidOutB Tryz.prog) = true := by kernel_rfl
theorem jf2 : (mapsRowed Tryz.prog) = true := by kernel_rfl
theorem jf3 : (Tryz.f3.params.all (Tryz.prog.readableRec ·)) = true := by kernel_rfl
theorem jf4 : (namedTie Tryz.prog Rows.viewNilRow.named Rows.viewNilSpec.vars) = true := by kernel_rfl
theorem jf5 : ((Rows.viewNilRow.stops == [])) = true := by kernel_rfl
theorem jf6 : ((Tryz.prog.stops == [])) = true := by kernel_rfl
theorem jf7 : ((Rows.viewNilRow.knobs == [])) = true := by kernel_rfl
theorem jf8 : ((Tryz.prog.stopKnobs == [])) = true := by kernel_rfl
theorem jf9 : ((Rows.viewNilRow.inPlace == Tryz.prog.inPlace 3)) = true := by kernel_rfl
theorem jf10 : ((Rows.viewNilRow.unfollowed == Tryz.prog.unfollowed 3)) = true := by kernel_rfl
end Go.Proofs.YthnonplijagpdaaGreat.viewNil
