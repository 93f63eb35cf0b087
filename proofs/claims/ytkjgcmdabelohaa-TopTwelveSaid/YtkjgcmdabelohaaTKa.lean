/- A fact of the whole program that each row of this seat asks for, reckoned by itself (mayEnter). No condition. -/
import Derived.Test.YtkjgcmdabelohaaRows
namespace Go.Proofs.Ytkjgcmdabelohaa
set_option maxRecDepth 100000 in
set_option maxHeartbeats 40000000 in
theorem k_mayEnter : Try.pinned.checked.prog.mayEnter = true := by kernel_rfl
end Go.Proofs.Ytkjgcmdabelohaa
