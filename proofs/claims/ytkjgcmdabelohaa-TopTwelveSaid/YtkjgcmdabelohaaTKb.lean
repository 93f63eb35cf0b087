/- A fact of the whole program that each row of this seat asks for, reckoned by itself (lifted). No condition. -/
import Derived.Test.YtkjgcmdabelohaaRows
namespace Go.Proofs.Ytkjgcmdabelohaa
set_option maxRecDepth 100000 in
set_option maxHeartbeats 40000000 in
theorem k_lifted : Try.pinned.checked.prog.liftsFinal = Rows.topLatentRow.lifted := by kernel_rfl
end Go.Proofs.Ytkjgcmdabelohaa
