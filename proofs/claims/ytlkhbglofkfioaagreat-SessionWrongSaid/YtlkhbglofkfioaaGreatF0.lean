/- Closed facts of the program. -/
import Derived.Test.YtlkhbglofkfioaaGreatChecked
import Derived.JoinedOf
import Derived.KernelRfl
set_option maxRecDepth 100000
namespace Go.Proofs.YtlkhbglofkfioaaGreat
theorem pf0 : laidOutB Tryz.prog = true := by kernel_rfl
theorem pf1 : mapsRowed Tryz.prog = true := by kernel_rfl
theorem pf2 : (Tryz.prog.stops == []) = true := by kernel_rfl
theorem pf3 : (Tryz.prog.stopKnobs == []) = true := by kernel_rfl
theorem pf4 : Tryz.prog.stopsHeard = true := by kernel_rfl
end Go.Proofs.YtlkhbglofkfioaaGreat
