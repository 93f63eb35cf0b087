/- A fact of the whole program that each row of this seat asks for, reckoned by itself (mayEnter). No condition. -/
/- A fact of the whole program that each row of this seat asks for, reckoned by itself (lifted). No condition. -/
/- A fact of the whole program that each row of this seat asks for, reckoned by itself (make). No condition. -/
import Derived.Test.YtkjgcmdabelohaaGreatRows
namespace Go.Proofs.YtkjgcmdabelohaaGreat
set_option maxRecDepth 100000 in
set_option maxHeartbeats 40000000 in
theorem k_mayEnter : Tryz.pinned.checked.prog.mayEnter = true := by kernel_rfl
end Go.Proofs.YtkjgcmdabelohaaGreat

namespace Go.Proofs.YtkjgcmdabelohaaGreat
set_option maxRecDepth 100000 in
set_option maxHeartbeats 40000000 in
theorem k_lifted : Tryz.pinned.checked.prog.liftsFinal = Rows.topFeltRow.lifted := by kernel_rfl
end Go.Proofs.YtkjgcmdabelohaaGreat

namespace Go.Proofs.YtkjgcmdabelohaaGreat
set_option maxRecDepth 100000 in
set_option maxHeartbeats 40000000 in
theorem k_make : Tryz.pinned.checked.prog.make = some Rows.topFeltRow.make := by kernel_rfl
end Go.Proofs.YtkjgcmdabelohaaGreat
