/- The examples of chapter 27, run by the kernel. -/
import Derived.Test.YtdpdlmjlahehoaaC0
import Derived.Test.YtdpdlmjlahehoaaG15
namespace Go.Ab
open Go.Proofs
theorem link_known_run : yes (evCall Try.prog Tt 3000 8 [] ⟨0, .leaf, []⟩) = true := by kernel_rfl
end Go.Ab
