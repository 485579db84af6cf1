/- What the functions' contracts share. -/
import Derived.Test.YtefekolpfklhdaaProg
import Derived.Test.YtefekolpfklhdaaAmA29
import Derived.KernelRfl
set_option maxRecDepth 2000
set_option linter.unusedVariables false
set_option linter.unusedSimpArgs false
namespace Go.Proofs.Ytefekolpfklhdaa
theorem Try.follows : Try.prog.follows .mixedOrders = true := by kernel_rfl
end Go.Proofs.Ytefekolpfklhdaa
