/- One closed fact of the program, by itself: it takes most of the memory. -/
import Derived.Test.YtlkhbglofkfioaaGreatChecked
import Derived.JoinedOf
import Derived.KernelRfl
set_option maxRecDepth 100000
namespace Go.Proofs.YtlkhbglofkfioaaGreat
theorem pf5 : Tryz.prog.mayEnter = true := by kernel_rfl
end Go.Proofs.YtlkhbglofkfioaaGreat
