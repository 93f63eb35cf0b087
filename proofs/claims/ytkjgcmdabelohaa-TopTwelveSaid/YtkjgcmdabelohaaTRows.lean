/- Slices of slices of bools. No condition. -/
import Derived.Test.YtkjgcmdabelohaaTTab
import Derived.Test.YtkjgcmdabelohaaLXK
namespace Go.Proofs.Ytkjgcmdabelohaa
open Go.RowKit

def rowsK : EK RowH := ⟨45, 57, 1, fun x => [.slice x.1 x.2.1 x.2.2], .slice none 0 0, 24, Try.underlying57, by kernel_rfl, rfl, by decide, by decide, fun _ => rfl, by simp [Value.oneCell']⟩
theorem rows_ne : rowsK.ty ≠ boolK.ty := by decide
end Go.Proofs.Ytkjgcmdabelohaa
