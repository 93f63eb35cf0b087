/- A fact of the whole program that each row of this seat asks for, reckoned by itself (make). No condition. -/
import Derived.Test.YtlljhimaopnbfaaRows
namespace Go.Proofs.Ytlljhimaopnbfaa
set_option maxRecDepth 100000 in
set_option maxHeartbeats 40000000 in
theorem k_make : Try.pinned.checked.prog.make = some Rows.lightOneRow.make := by kernel_rfl
end Go.Proofs.Ytlljhimaopnbfaa
