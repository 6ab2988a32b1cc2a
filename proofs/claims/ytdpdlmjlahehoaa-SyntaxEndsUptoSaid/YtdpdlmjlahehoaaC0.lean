/- What the abstract machine asks of this program: the table, the orders. -/
import Derived.Test.YtdpdlmjlahehoaaGF
import Derived.Test.YtdpdlmjlahehoaaGT
namespace Go.Ab
open Go.Proofs
theorem tt_ok : TabOk Try.prog Tt := tab_ok (by kernel_rfl)
theorem prog_ng : NoNG Try.prog := ng_ok (by kernel_rfl)
theorem prog_mixed : Try.prog.follows .mixedOrders = true := by kernel_rfl
end Go.Ab
