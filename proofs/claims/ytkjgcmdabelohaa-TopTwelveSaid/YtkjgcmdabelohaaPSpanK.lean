/- The kind of spans: structs of two numbers. No condition. -/
import Derived.Test.YtkjgcmdabelohaaLXK
namespace Go.Proofs.Ytkjgcmdabelohaa
open Go.RowKit
def spanK : EK (Int × Int) := ⟨149, 146, 2, fun x => [.int .i64 x.1, .int .i64 x.2], .agg #[.int .i64 0, .int .i64 0], 16, Try.underlying146, by kernel_rfl, rfl, by decide, by decide, fun _ => rfl, by simp [Value.oneCell']⟩
end Go.Proofs.Ytkjgcmdabelohaa
