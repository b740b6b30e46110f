/- The law 'PlainReckons' over numbers that are not known: runs of it. -/
import Derived.Test.YtkaladiliikheaaGreatDoorPlR0
set_option linter.unusedVariables false
set_option linter.unusedSectionVars false
namespace Go.Proofs.YtkaladiliikheaaGreatDoor.plain
open Go.Eng
set_option maxRecDepth 100000
section
variable [Toks]
theorem reck3t : okT (ET (tabR 3 true) 3 [tk 0, tk 1, tk 2] (emp 4)) = true := by kernel_rfl
theorem reck3f : okT (ET (tabR 3 false) 3 [tk 0, tk 1, tk 2] (emp 4)) = true := by kernel_rfl
end
end Go.Proofs.YtkaladiliikheaaGreatDoor.plain
